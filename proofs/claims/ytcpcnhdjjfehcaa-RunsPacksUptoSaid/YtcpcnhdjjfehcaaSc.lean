/- The contract of the reference's Fixed, over the seat's program. -/
import Derived.Test.YtcpcnhdjjfehcaaSb
namespace Go.Proofs.Ytcpcnhdjjfehcaa
open Go.RowKit Go.Proofs.YtcpcnhdjjfehcaaK
set_option linter.unusedVariables false
set_option linter.unusedSimpArgs false
theorem info3 : (Try.prog.info? 3).map (fun i => (i.zero, i.size, i.bytes)) = some (some (.int .i64 0), 1, 8) := by kernel_rfl
def fixL : List Int := List.replicate 144 8 ++ List.replicate 112 9 ++ List.replicate 24 7 ++ List.replicate 8 8
def fixN (k : Nat) : Int := if k < 144 then 8 else if k < 256 then 9 else if k < 280 then 7 else 8
theorem fix_snoc (k : Nat) (h : k < 288) : (fixL.take (k + 1)) = fixL.take k ++ [fixN k] := by
  have : fixL[k]? = some (fixN k) := by
    have : ∀ k, k < 288 → fixL[k]? = some (fixN k) := by decide +kernel
    exact this k h
  rw [List.take_add_one, this]; rfl
theorem fix_len : fixL.length = 288 := by decide +kernel
set_option maxHeartbeats 800000 in
set_option maxRecDepth 100000 in
theorem fixed18 (B : Nat) (w0 w : World) (hB : B ≤ w.heap.size) (hb : Below B w0 w) : Calls Try.prog 18 #[] w (Made B w0 w fixL) := by
  obtain ⟨i0, hi, hz0, hz1, hz2⟩ := info_parts info3
  have HB := Lib.hid hb
  clear hb
  go_enter Try.func18, Try.ntmps18
  go_wp2
  go_loopw [1, 2] (fun v i wr => ∃ k : Nat, k ≤ 288 ∧ i = .int .i64 k ∧ Hid (wr.ownsRow w.heap.size 3 1 v k ((fixL.take k).map (Value.int .i64))) ∧ Hid (Below B w0 wr) ∧ w.heap.size ≤ wr.heap.size) (fun _ i _ => 288 - (intOf i).toNat)
  case atStart => exact ⟨0, Nat.zero_le _, rfl, Lib.hid (by simpa using World.ownsRow_nil _ _ _ _), HB, Nat.le_refl _⟩
  case round =>
    obtain ⟨k, hk, rfl, HO, HB1, hsz⟩ := hrel
    by_cases hlt : k < 288
    · rcases (show k < 144 ∨ (144 ≤ k ∧ k < 256) ∨ (256 ≤ k ∧ k < 280) ∨ 280 ≤ k by omega) with h1 | ⟨h1, h2⟩ | ⟨h1, h2⟩ | h1
      · have hN : Hid (fixN k = 8) := by unfold Hid fixN; simp [h1]
        go_wp2_with (at_builtin; refine wpList_app1 rfl (.tmp 20) (.tmp 22) 23 3 (.int .i64 0) 8 rfl Try.underlying23 info3 rfl w.heap.size B w0 _ k _ rfl HO (.int .i64 8) rfl rfl (by omega) (by omega) hsz hB HB1 ?_; intro v' w1 HO2 HB2 hsz2)
        go_roundw
        case rel =>
          refine ⟨k + 1, by omega, by go_num, Lib.hid ?_, HB2, by omega⟩
          rw [fix_snoc k hlt, hN.out, List.map_append]
          exact HO2.out
        case measure => simp [intOf]; omega
      · have hN : Hid (fixN k = 9) := by unfold Hid fixN; simp [Nat.not_lt.2 h1, h2]
        go_wp2_with (at_builtin; refine wpList_app1 rfl (.tmp 20) (.tmp 22) 23 3 (.int .i64 0) 8 rfl Try.underlying23 info3 rfl w.heap.size B w0 _ k _ rfl HO (.int .i64 9) rfl rfl (by omega) (by omega) hsz hB HB1 ?_; intro v' w1 HO2 HB2 hsz2)
        go_roundw
        case rel =>
          refine ⟨k + 1, by omega, by go_num, Lib.hid ?_, HB2, by omega⟩
          rw [fix_snoc k hlt, hN.out, List.map_append]
          exact HO2.out
        case measure => simp [intOf]; omega
      · have hN : Hid (fixN k = 7) := by unfold Hid fixN; simp [show ¬ k < 144 by omega, show ¬ k < 256 by omega, h2]
        go_wp2_with (at_builtin; refine wpList_app1 rfl (.tmp 20) (.tmp 22) 23 3 (.int .i64 0) 8 rfl Try.underlying23 info3 rfl w.heap.size B w0 _ k _ rfl HO (.int .i64 7) rfl rfl (by omega) (by omega) hsz hB HB1 ?_; intro v' w1 HO2 HB2 hsz2)
        go_roundw
        case rel =>
          refine ⟨k + 1, by omega, by go_num, Lib.hid ?_, HB2, by omega⟩
          rw [fix_snoc k hlt, hN.out, List.map_append]
          exact HO2.out
        case measure => simp [intOf]; omega
      · have hN : Hid (fixN k = 8) := by unfold Hid fixN; simp [show ¬ k < 144 by omega, show ¬ k < 256 by omega, show ¬ k < 280 by omega]
        go_wp2_with (at_builtin; refine wpList_app1 rfl (.tmp 20) (.tmp 22) 23 3 (.int .i64 0) 8 rfl Try.underlying23 info3 rfl w.heap.size B w0 _ k _ rfl HO (.int .i64 8) rfl rfl (by omega) (by omega) hsz hB HB1 ?_; intro v' w1 HO2 HB2 hsz2)
        go_roundw
        case rel =>
          refine ⟨k + 1, by omega, by go_num, Lib.hid ?_, HB2, by omega⟩
          rw [fix_snoc k hlt, hN.out, List.map_append]
          exact HO2.out
        case measure => simp [intOf]; omega
    · obtain rfl : k = 288 := by omega
      go_wp2
      go_ret
      refine ⟨_, rfl, ?_, HB1.out, hsz⟩
      rw [fix_len]
      have := HO.out
      rwa [show fixL.take 288 = fixL from List.take_of_length_le (by rw [fix_len]; omega)] at this
end Go.Proofs.Ytcpcnhdjjfehcaa
