/- Contracts of prefix.full, of slices.ContainsFunc at prefix.New's own test, and of 'names', over the seat's program. -/
import Derived.Test.YtejieakikboedaaProg
import Derived.Test.YtejieakikboedaaPs
namespace Go.Proofs.Ytejieakikboedaa
open Go.RowKit Go.Proofs.YtejieakikboedaaK
set_option linter.unusedVariables false
set_option linter.unusedSimpArgs false
theorem names9 (w : World) : Calls Try.prog 9 #[] w fun e w' => e = .returned (.bool true) ∧ w = w' := by
  go_enter Try.func9, Try.ntmps9
  go_wp2
  go_ret
  exact ⟨rfl, rfl⟩
theorem pow_shift (x : Int) (h0 : 0 < x) (h1 : x ≤ 20) : IntKind.i64.wrap (1 * 2 ^ (20 - x).toNat) = 2 ^ (20 - x).toNat := by
  have := pow_le_20 x h0
  rw [Int.one_mul, IntWalk.i64_in _ (by omega)]
set_option maxHeartbeats 1000000 in
theorem full28 (A : Option Addr) (c : Nat) (l : List Int) (loose : Bool) (w : World) (hl : l.length ≤ 65536) (hb : Hid (∀ x ∈ l, 0 ≤ x ∧ x ≤ 20)) (hr : Hid (Rd w A (l.map (Value.int .i64)))) :
    Calls Try.prog 28 #[.slice A l.length c, .bool loose] w fun e w' => e = .returned (.bool (fullB l loose)) ∧ w = w' := by
  go_enter Try.func28, Try.ntmps28
  go_wp2
  go_loop [5, 6, 11] (fun s n i => ∃ k : Nat, k ≤ l.length ∧ i = .int .i64 k ∧ s = .int .i64 (sumOf (l.take k)) ∧ n = .int .i64 (cntOf (l.take k))) (fun _ _ i => l.length - (intOf i).toNat)
  case atStart => exact ⟨0, Nat.zero_le _, rfl, rfl, rfl⟩
  case round =>
    obtain ⟨k, hk, rfl, rfl, rfl⟩ := hrel
    have hbd := sum_bd l k hk
    by_cases hlt : k < l.length
    · obtain ⟨a, x, rfl, hcx, hx⟩ := hr.out.num k hlt
      have hxb : 0 ≤ x ∧ x ≤ 20 := hb.out x (by
        have := hx.out
        rw [List.getD_eq_getElem?_getD, List.getElem?_eq_getElem hlt] at this
        subst this
        exact List.getElem_mem hlt)
      obtain ⟨hx0, hx1⟩ := hxb
      have hs1 := Lib.hid (sumOf_snoc l k hlt)
      have hs2 := Lib.hid (cntOf_snoc l k hlt)
      generalize sumOf (l.take k) = s at *
      generalize cntOf (l.take k) = n at *
      by_cases hp : 0 < x
      · have hpw := pow_le_20 x hp
        go_wp2
        refine ⟨⟨k + 1, by omega, by go_num, ?_, ?_⟩, by simp [intOf]; omega⟩
        · rw [hs1.out, hx.out, if_pos hp]
        · rw [hs2.out, hx.out, if_pos hp]
      · go_wp2
        refine ⟨⟨k + 1, by omega, by go_num, ?_, ?_⟩, by simp [intOf]; omega⟩
        · rw [hs1.out, hx.out, if_neg hp, Int.add_zero]
        · rw [hs2.out, hx.out, if_neg hp, Int.add_zero]
    · obtain rfl : k = l.length := by omega
      rw [List.take_length] at *
      have hF := Lib.hid (show fullB l loose = (decide (sumOf l = 1048576) || (loose && (decide (cntOf l = 0) || (decide (cntOf l = 1) && decide (sumOf l = 524288))))) from rfl)
      generalize sumOf l = s at *
      generalize cntOf l = n at *
      clear hbd hk
      by_cases h1 : s = 1048576
      · have hf := Lib.hid (show fullB l _ = true by rw [hF.out]; simp [h1])
        subst h1
        go_wp2
        go_ret
        exact ⟨by rw [hf.out]; rfl, rfl⟩
      · have e1 : (s == 1048576) = false := by simpa using h1
        cases loose with
        | false =>
          have hf := Lib.hid (show fullB l _ = false by rw [hF.out]; simp [h1])
          go_wp2
          go_ret
          exact ⟨by rw [hf.out]; rfl, rfl⟩
        | true =>
          by_cases h2 : n = 0
          · have hf := Lib.hid (show fullB l _ = true by rw [hF.out]; simp [h2])
            subst h2
            go_wp2
            go_ret
            exact ⟨by rw [hf.out]; rfl, rfl⟩
          · have e2 : (n == 0) = false := by simpa using h2
            by_cases h3 : n = 1
            · subst h3
              by_cases h4 : s = 524288
              · have hf := Lib.hid (show fullB l _ = true by rw [hF.out]; simp [h4])
                subst h4
                go_wp2
                go_ret
                exact ⟨by rw [hf.out]; rfl, rfl⟩
              · have e4 : (s == 524288) = false := by simpa using h4
                have hf := Lib.hid (show fullB l _ = false by rw [hF.out]; simp [h1, h4])
                go_wp2
                go_ret
                exact ⟨by rw [hf.out]; rfl, rfl⟩
            · have e3 : (n == 1) = false := by simpa using h3
              have hf := Lib.hid (show fullB l _ = false by rw [hF.out]; simp [h1, h2, h3])
              go_wp2
              go_ret
              exact ⟨by rw [hf.out]; rfl, rfl⟩
/-- prefix.New's test. -/
theorem odd26 (x most : Int) (pm : Addr) (w : World) (hm : w.cell? pm = some (.int .i64 most)) :
    Calls Try.prog 26 #[.int .i64 x, .pointer (some pm)] w fun e w' => e = .returned (.bool (oddB most x)) ∧ w = w' := by
  have hF := Lib.hid (show oddB most x = (decide (x < 0) || decide (most < x)) from rfl)
  generalize oddB most x = F at *
  by_cases h1 : x < 0
  · have hf : F = true := by rw [hF.out]; simp [h1]
    subst hf
    go_enter Try.func26, Try.ntmps26
    go_wp2
    go_ret
    exact ⟨rfl, rfl⟩
  · by_cases h2 : most < x
    · have hf : F = true := by rw [hF.out]; simp [h2]
      subst hf
      go_enter Try.func26, Try.ntmps26
      go_wp2
      go_ret
      exact ⟨by simp [h2], rfl⟩
    · have hf : F = false := by rw [hF.out]; simp [h1, h2]
      subst hf
      go_enter Try.func26, Try.ntmps26
      go_wp2
      go_ret
      exact ⟨by simp [h2], rfl⟩
set_option maxHeartbeats 1000000 in
theorem index37 (A : Option Addr) (c : Nat) (l : List Int) (most : Int) (pm : Addr) (w : World) (hl : l.length ≤ 9223372036854775807) (hm : w.cell? pm = some (.int .i64 most)) (hr : Hid (Rd w A (l.map (Value.int .i64)))) :
    Calls Try.prog 37 #[.slice A l.length c, .func (.func 26) #[] #[.pointer (some pm)]] w fun e w' => (∃ i : Int, e = .returned (.int .i64 i) ∧ -1 ≤ i ∧ (l.any (oddB most) = decide (0 ≤ i))) ∧ w = w' := by
  have HM := Lib.hid hm
  clear hm
  go_enter Try.func37, Try.ntmps37
  go_wp2
  go_loop [8] (fun i => ∃ k : Nat, k ≤ l.length ∧ i = .int .i64 k ∧ Hid ((l.take k).any (oddB most) = false)) (fun i => l.length - (intOf i).toNat)
  case atStart => exact ⟨0, Nat.zero_le _, rfl, Lib.hid (by simp)⟩
  case round =>
    obtain ⟨k, hk, rfl, HN⟩ := hrel
    by_cases hlt : k < l.length
    · obtain ⟨a, x, rfl, hcx, hx⟩ := hr.out.num k hlt
      have hxe : l[k] = x := by
        have := hx.out
        rwa [List.getD_eq_getElem?_getD, List.getElem?_eq_getElem hlt] at this
      have hsn := Lib.hid (show (l.take (k + 1)).any (oddB most) = oddB most x by rw [List.take_succ_eq_append_getElem hlt, List.any_append, HN.out, hxe]; simp)
      have hmem : Hid (oddB most x = true → l.any (oddB most) = true) := Lib.hid (fun h => List.any_eq_true.2 ⟨x, by rw [← hxe]; exact List.getElem_mem hlt, h⟩)
      clear hxe
      go_wp2_with fail
      refine (odd26 x most pm w HM.out).mono ?_
      rintro e w' ⟨rfl, rfl⟩
      cases ho : oddB most x with
      | true =>
        have hany := Lib.hid (hmem.out ho)
        clear ho
        go_wp2
        go_ret
        exact ⟨⟨k, rfl, by omega, by rw [hany.out]; simp⟩, rfl⟩
      | false =>
        have hn2 := Lib.hid (hsn.out.trans ho)
        clear ho
        go_wp2
        go_round
        case rel => exact ⟨k + 1, by omega, by go_num, hn2⟩
        case measure => simp [intOf]; omega
    · obtain rfl : k = l.length := by omega
      go_wp2
      go_ret
      have := HN.out
      rw [List.take_length] at this
      exact ⟨⟨-1, rfl, by omega, by rw [this]; decide⟩, rfl⟩
set_option maxHeartbeats 1000000 in
theorem contains27 (A : Option Addr) (c : Nat) (l : List Int) (most : Int) (pm : Addr) (w : World) (hl : l.length ≤ 9223372036854775807) (hm : w.cell? pm = some (.int .i64 most)) (hr : Hid (Rd w A (l.map (Value.int .i64)))) :
    Calls Try.prog 27 #[.slice A l.length c, .func (.func 26) #[] #[.pointer (some pm)]] w fun e w' => e = .returned (.bool (l.any (oddB most))) ∧ w = w' := by
  have HM := Lib.hid hm
  clear hm
  go_enter Try.func27, Try.ntmps27
  go_wp2_with fail
  refine (index37 A c l most pm w hl HM.out hr).mono ?_
  rintro e w' ⟨⟨i, rfl, hi, hany⟩, rfl⟩
  have HA := Lib.hid hany
  clear hany
  go_wp2
  go_ret
  exact ⟨by rw [HA.out]; rfl, rfl⟩
end Go.Proofs.Ytejieakikboedaa
