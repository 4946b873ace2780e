/-
  For every whole number, InflateKnows returns true and leaves memory as it was; no condition.
  The row's frame (the theorem 'lifted', 'over', 'proved') began as the guide's shell for this statement.
-/
import Derived.Test.YtcpcnhdjjfehcaaRows
import Derived.WalkKit
import Derived.ProofKit
import Derived.OpenShut
import Derived.Test.YtcpcnhdjjfehcaaSa
import Derived.Test.YtcpcnhdjjfehcaaSf
namespace Go.Proofs.Ytcpcnhdjjfehcaa.inflateKnows
open Go.ChangeShapes Go.WideShapes Go.ChangeAt Go.RowKit
set_option linter.unusedVariables false      -- a walk need not use every 'w<i>' (that an integer argument fits its kind)

theorem own : ownKnob Try.prog.godebug = none := by kernel_rfl

/-! ### STEP 1: THE WALK: the Go text returns true. 'Grown w w'': the world has at most new blocks (Derived/RowKit3.lean). Part the cases AHEAD of 'go_enter' where a test parts the walk; take each callee by a contract of your own. -/
theorem walk (a0 : Int) (w0 : (Lit.int .i64 a0).wf = true) (w : World) :
    Calls Try.prog 4 #[.int .i64 a0] w fun e w' => e = .returned (.bool true) ∧ Below w.heap.size w w' := by
  have hb0 : -9223372036854775808 ≤ a0 ∧ a0 ≤ 9223372036854775807 := by
    exact bounds_i64 w0
  have G0 := Lib.hid (Below.refl w.heap.size w)
  obtain ⟨l1, l2⟩ := hb0
  clear w0
  go_enter Try.func4, Try.ntmps4
  go_wp2_with fail
  refine (len12 a0 l1 l2 _).mono ?_
  rintro e w1 ⟨rfl, rfl⟩
  go_wp2_with fail
  refine (len13 a0 l1 l2 _).mono ?_
  rintro e w1 ⟨rfl, rfl⟩
  go_wp2_with fail
  refine (dist14 a0 l1 l2 _).mono ?_
  rintro e w1 ⟨rfl, rfl⟩
  go_wp2_with fail
  refine (dist15 a0 l1 l2 _).mono ?_
  rintro e w1 ⟨rfl, rfl⟩
  go_wp2_with fail
  refine (fixed17 w1).mono ?_
  intro e u1 hm
  obtain ⟨A1, c1, rfl, hA1, bA1, sA1⟩ := made_gave hm
  clear hm
  go_wp2_with fail
  refine (fixed18 u1.heap.size u1 u1 (Nat.le_refl _) (Below.refl _ _)).mono ?_
  intro e v1 hm
  obtain ⟨B1, d1, rfl, hB1, bB1, sB1⟩ := made_gave hm
  clear hm
  go_wp2_with fail
  refine (same_two fixL (by decide +kernel) w1 u1 v1 A1 B1 c1 d1 hA1 hB1 bA1 bB1 sA1 sB1).mono ?_
  rintro e x1 ⟨rfl, X1, sx1⟩
  clear hA1 hB1 bA1 bB1 sA1 sB1
  go_wp2_with fail
  refine (fixed17 x1).mono ?_
  intro e u2 hm
  obtain ⟨A2, c2, rfl, hA2, bA2, sA2⟩ := made_gave hm
  clear hm
  go_wp2_with fail
  refine (fixed18 u2.heap.size u2 u2 (Nat.le_refl _) (Below.refl _ _)).mono ?_
  intro e v2 hm
  obtain ⟨B2, d2, rfl, hB2, bB2, sB2⟩ := made_gave hm
  clear hm
  go_wp2_with fail
  refine (same_two fixL (by decide +kernel) x1 u2 v2 A2 B2 c2 d2 hA2 hB2 bA2 bB2 sA2 sB2).mono ?_
  rintro e x2 ⟨rfl, X2, sx2⟩
  clear hA2 hB2 bA2 bB2 sA2 sB2
  go_wp2_with fail
  refine (order19 x2.heap.size x2 x2 (Nat.le_refl _) (Below.refl _ _)).mono ?_
  intro e u3 hm
  obtain ⟨A3, c3, rfl, hA3, bA3, sA3⟩ := made_gave hm
  clear hm
  go_wp2_with fail
  refine (order20 u3.heap.size u3 u3 (Nat.le_refl _) (Below.refl _ _)).mono ?_
  intro e v3 hm
  obtain ⟨B3, d3, rfl, hB3, bB3, sB3⟩ := made_gave hm
  clear hm
  go_wp2_with fail
  refine (same_two ordL (by decide +kernel) x2 u3 v3 A3 B3 c3 d3 hA3 hB3 bA3 bB3 sA3 sB3).mono ?_
  rintro e x3 ⟨rfl, X3, sx3⟩
  clear hA3 hB3 bA3 bB3 sA3 sB3
  go_wp2_with fail
  refine (order19 x3.heap.size x3 x3 (Nat.le_refl _) (Below.refl _ _)).mono ?_
  intro e u4 hm
  obtain ⟨A4, c4, rfl, hA4, bA4, sA4⟩ := made_gave hm
  clear hm
  go_wp2_with fail
  refine (order20 u4.heap.size u4 u4 (Nat.le_refl _) (Below.refl _ _)).mono ?_
  intro e v4 hm
  obtain ⟨B4, d4, rfl, hB4, bB4, sB4⟩ := made_gave hm
  clear hm
  go_wp2_with fail
  refine (same_two ordL (by decide +kernel) x3 u4 v4 A4 B4 c4 d4 hA4 hB4 bA4 bB4 sA4 sB4).mono ?_
  rintro e x4 ⟨rfl, X4, sx4⟩
  clear hA4 hB4 bA4 bB4 sA4 sB4
  go_wp2
  go_ret
  have b1 := X1.out
  have b2 := X2.out.mono sx1
  have b3 := X3.out.mono (show w1.heap.size ≤ x2.heap.size by omega)
  have b4 := X4.out.mono (show w1.heap.size ≤ x3.heap.size by omega)
  exact ⟨rfl, b1.trans (b2.trans (b3.trans b4))⟩

/-! ### THE ROW's STEP: WRITTEN OUT: LEAVE IT -/
set_option maxRecDepth 100000 in
theorem lifted (os : Os) (started : os.Started) (H : Type) (enc : TypeId × Value → H) :
    ReturnsInHanded {} Try.checked os 4 .any (Rows.inflateKnowsSpec.pre6 enc Try.prog Try.f4 Rows.inflateKnowsRow.domain false) (Rows.inflateKnowsSpec.post enc Try.prog Try.f4 false true false false) := by
  refine returnsInHanded_of_change (C := Try.checked) own started (by kernel_rfl) Try.func4
    (ChangeSpec.witness6 (enc := enc) (C := Try.checked) false ⟨#[], #[.int .i64 0], []⟩ 8 (by kernel_rfl) (by kernel_rfl) (by kernel_rfl) (by kernel_rfl)) ?_
  intro W base args ds gs before hval0 hW hcnd _
  have hval : ∀ (j : Nat) t v, Try.f4.params[j]? = some t → args[j]? = some v → Value.okWide Try.prog W .any base t v := hval0
  have hW' := hW
  obtain ⟨p, q, hA0, hV, rfl, hfz, hnd⟩ := hW
  have hA : DataW.TrodAll enc Try.prog W 0 (fun _ => true) true Try.f4.params.toList args.toList ds p := hA0
  rw [Try.params4] at hA hval
  obtain ⟨v0, vs0, d0, ds0, p0, q0, hargs, rfl, rfl, h0, r0⟩ := trodAll_cons hA
  obtain ⟨rfl, rfl, rfl⟩ := trodAll_nil r0
  obtain rfl : args = #[v0] := by cases args; simp_all
  obtain ⟨rfl, rfl⟩ := trodVars_none hV
  obtain ⟨a0, rfl, rfl, rfl, w0⟩ := open_int Try.underlying3 (hval 0 3 v0 rfl rfl) h0
  clear hA0 hval0
  refine (walk a0 w0 W).mono fun e W' ⟨he, bel⟩ => ?_
  subst he
  exact ⟨_, rfl, _, _, _, [], _, [], hW', trodAll_mk1 (shut_bool Try.underlying4 _), (trodAll_cons_mk (shut_int Try.underlying3 w0) trodAll_mk0), rfl, bel.frame _, fun h => by cases h⟩

theorem over : Rows.inflateKnowsRow.holds Try.pinned (OpenSpec.ofChange Rows.inflateKnowsSpec) :=
  OpenClaim.holds_of_wide 4 Try.f4 rfl rfl rfl rfl rfl rfl rfl ⟨rfl, rfl, rfl, rfl, rfl⟩ rfl rfl rfl rfl rfl (by kernel_rfl) Try.func4 (by kernel_rfl)
    (of_decide_eq_true (by kernel_rfl)) (by unfold Func.isWrapper; first | (rw [if_pos (by decide +kernel)]; kernel_rfl) | (rw [if_neg (by decide +kernel)]; exact ⟨rfl, rfl⟩))
    (fun os started H enc _ => lifted os started H enc)

/-- ████ THE STATEMENT ████ -/
theorem proved : Rows.InflateKnowsSaid :=
  over
#print axioms proved
end Go.Proofs.Ytcpcnhdjjfehcaa.inflateKnows
