/- The contracts of slices.Grow at nil, slices.Concat at rows of ints, and inflate.Fixed, over the seat's program. -/
import Derived.Test.YtcpcnhdjjfehcaaSd
namespace Go.Proofs.Ytcpcnhdjjfehcaa
open Go.RowKit Go.Proofs.YtcpcnhdjjfehcaaK
set_option linter.unusedVariables false
set_option linter.unusedSimpArgs false
set_option maxHeartbeats 400000 in
set_option maxRecDepth 100000 in
theorem grow76 (B : Nat) (w0 w : World) (hB : B ≤ w.heap.size) (hb : Below B w0 w) :
    Calls Try.prog 76 #[.slice none 0 0, .int .i64 288] w fun e w' => ∃ v, e = .returned v ∧ w'.ownsRow w.heap.size 3 1 v 0 [] ∧ Below B w0 w' ∧ Below w.heap.size w w' ∧ w.heap.size ≤ w'.heap.size := by
  have HB := Lib.hid hb
  clear hb
  have hbt : Try.t3.bytes = 8 := rfl
  have hnx : Builtin.nextslicecap 288 0 = 288 := by decide +kernel
  go_enter Try.func76, Try.ntmps76
  go_wp2_with fail
  go_ret
  have h1 : 288 ≤ (Question.appendCap 288 0 3).cut (w.tape w.drawn (Question.appendCap 288 0 3)) := by simp [Question.cut]
  have h2 : (Question.appendCap 288 0 3).cut (w.tape w.drawn (Question.appendCap 288 0 3)) ≤ maxLen := by
    have hlt := Nat.mod_lt (w.tape w.drawn (.appendCap 288 0 3)) (show 0 < 2 ^ 63 - 288 by omega)
    simp only [Question.cut, maxLen] at hlt ⊢
    omega
  generalize (Question.appendCap 288 0 3).cut (w.tape w.drawn (Question.appendCap 288 0 3)) = k at h1 h2
  refine ⟨_, rfl, ?_, below_drew (HB.out.alloc hB _), below_drew ((Below.refl _ _).alloc (Nat.le_refl _) _), by simp⟩
  exact World.ownsRow_made w _ k (Nat.le_refl _) h2 (by simp [size_zeroCells]; omega)
/-- The rows of a slice of slices of ints: where each lies, its capacity, its numbers. -/
abbrev Rows4 := List (Option Addr × Nat × List Int)
def rowV (r : Option Addr × Nat × List Int) : Value := .slice r.1 r.2.2.length r.2.1
def rowsLen (R : Rows4) : Nat := (R.map (fun r => r.2.2.length)).sum
def rowsCat (R : Rows4) : List Int := R.flatMap (fun r => r.2.2)
theorem rowsLen_snoc (R : Rows4) (k : Nat) (h : k < R.length) : rowsLen (R.take (k + 1)) = rowsLen (R.take k) + R[k].2.2.length := by
  unfold rowsLen
  rw [List.take_succ_eq_append_getElem h, List.map_append, List.sum_append]
  rfl
theorem rowsCat_snoc (R : Rows4) (k : Nat) (h : k < R.length) : rowsCat (R.take (k + 1)) = rowsCat (R.take k) ++ R[k].2.2 := by
  unfold rowsCat
  rw [List.take_succ_eq_append_getElem h, List.flatMap_append]
  exact congrArg _ (List.append_nil _)
theorem rowsCat_len (R : Rows4) : (rowsCat R).length = rowsLen R := by
  unfold rowsCat rowsLen
  induction R with
  | nil => rfl
  | cons r R ih => simp [ih]
set_option maxHeartbeats 800000 in
set_option maxRecDepth 100000 in
theorem concat43 (a : Addr) (R : Rows4) (c : Nat) (B : Nat) (w0 w : World) (hR : R.length ≤ 10) (hlen : rowsLen R = 288) (hle : ∀ k, k ≤ R.length → rowsLen (R.take k) ≤ 288)
    (hr : Rd w (some a) (R.map rowV)) (hrow : ∀ k (h : k < R.length), Rd w R[k].1 (R[k].2.2.map (Value.int .i64))) (hpos : ∀ k (h : k < R.length), 0 < R[k].2.2.length) (hB : B ≤ w.heap.size) (hb : Below B w0 w) :
    Calls Try.prog 43 #[.slice (some a) R.length c] w (Made B w0 w (rowsCat R)) := by
  have HB := Lib.hid hb
  have HLE := Lib.hid hle
  have HLEN := Lib.hid hlen
  have HR := Lib.hid hr
  have HRow := Lib.hid hrow
  have HP := Lib.hid hpos
  clear hb hle hr hrow hpos hlen
  go_enter Try.func43, Try.ntmps43
  go_wp2_with fail
  go_loop [3, 11] (fun s i => ∃ k : Nat, k ≤ R.length ∧ i = .int .i64 k ∧ s = .int .i64 (rowsLen (R.take k))) (fun _ i => R.length - (intOf i).toNat)
  case atStart => exact ⟨0, Nat.zero_le _, rfl, by simp [rowsLen]⟩
  case round =>
    obtain ⟨k, hk, rfl, rfl⟩ := hrel
    by_cases hlt : k < R.length
    · obtain ⟨a', ha', hc⟩ := HR.out.at_ k (by simpa using hlt)
      injection ha' with ha'
      subst ha'
      rw [List.getElem_map] at hc
      have hsn := Lib.hid (rowsLen_snoc R k hlt)
      have hb1 : rowsLen (R.take k) + R[k].2.2.length ≤ 288 := by rw [← hsn.out]; exact HLE.out (k + 1) hlt
      unfold rowV at hc
      go_wp2
      go_round
      case rel => exact ⟨k + 1, by omega, by go_num, by rw [hsn.out]; go_num⟩
      case measure => simp [intOf]; omega
    · obtain rfl : k = R.length := by omega
      rw [List.take_length, HLEN.out]
      go_wp2_with fail
      refine (grow76 B w0 w hB HB.out).mono ?_
      rintro e w1 ⟨v, rfl, ho1, hb1, hbw1, hsz1⟩
      have HO1 := Lib.hid ho1
      have HB1 := Lib.hid hb1
      have HBW1 := Lib.hid hbw1
      clear ho1 hb1 hbw1
      go_wp2_with fail
      go_loopw [6, 27] (fun v i wr => ∃ k : Nat, k ≤ R.length ∧ i = .int .i64 k ∧ Hid (wr.ownsRow w.heap.size 3 1 v (rowsLen (R.take k)) ((rowsCat (R.take k)).map (Value.int .i64))) ∧ Hid (Below w.heap.size w wr) ∧ Hid (Below B w0 wr) ∧ w.heap.size ≤ wr.heap.size) (fun _ i _ => R.length - (intOf i).toNat)
      case atStart => exact ⟨0, Nat.zero_le _, rfl, HO1, HBW1, HB1, hsz1⟩
      case round =>
        obtain ⟨k, hk, rfl, HO2, HBW2, HB2, hsz2⟩ := hrel
        by_cases hlt : k < R.length
        · obtain ⟨a', ha', hc⟩ := (HR.out.below HBW2.out).at_ k (by simpa using hlt)
          injection ha' with ha'
          subst ha'
          rw [List.getElem_map] at hc
          have hsn := Lib.hid (rowsLen_snoc R k hlt)
          have hb1 : rowsLen (R.take k) + R[k].2.2.length ≤ 288 := by rw [← hsn.out]; exact HLE.out (k + 1) hlt
          have hp := HP.out k hlt
          have HRk := Lib.hid ((HRow.out k hlt).below HBW2.out)
          have hcat := Lib.hid (rowsCat_snoc R k hlt)
          have hlen := Lib.hid (show (R[k].2.2.map (Value.int .i64)).length = R[k].2.2.length by simp)
          unfold rowV at hc
          go_wp2_with (at_builtin; refine wpList_appRow rfl (.tmp 31) (.tmp 32) 23 3 (.int .i64 0) 8 rfl Try.underlying23 info3 rfl w.heap.size B w0 _ _ _ rfl HO2 _ _ _ rfl _ hlen hp HRk (Lib.hid (ints_one _ _)) (by omega) (by omega) hsz2 hB HB2 ?_; intro v' w3 HO3 HB3 HBW3 hsz3)
          go_roundw
          case rel =>
            refine ⟨k + 1, by omega, by go_num, Lib.hid ?_, Lib.hid (HBW2.out.trans HBW3.out), HB3, by omega⟩
            rw [hsn.out, hcat.out, List.map_append]
            exact HO3.out
          case measure => simp [intOf]; omega
        · obtain rfl : k = R.length := by omega
          go_wp2
          go_ret
          refine ⟨_, rfl, ?_, HB2.out, hsz2⟩
          have := HO2.out
          rwa [List.take_length, ← rowsCat_len] at this
end Go.Proofs.Ytcpcnhdjjfehcaa
