/- The contract of the reference's Cost, over the seat's program. -/
import Derived.Test.YtejieakikboedaaPe
import Derived.Test.YtejieakikboedaaK6
namespace Go.Proofs.Ytejieakikboedaa
open Go.RowKit Go.Proofs.YtejieakikboedaaK
set_option linter.unusedVariables false
set_option linter.unusedSimpArgs false
set_option maxHeartbeats 4000000 in
set_option maxRecDepth 100000 in
theorem refcost11 (w : World) (g : Nat) (ws : List (Int × Int)) (A : Option Addr) (c : Nat) (cs : List Int) (hl : ws.length ≤ 65536) (hlc : cs.length ≤ 9223372036854775807) (hwd : Wd ws) (hcb : Hid (∀ x ∈ cs, x ≤ 9223372036854775807)) (h : Hid (WBlk 43 w g ws)) (hr : Hid (Rd w A (cs.map (Value.int .i64)))) :
    Calls Try.prog 11 #[.slice (some ⟨g, 0, none⟩) ws.length ws.length, .slice A cs.length c] w (fun e w' => e = .returned (.tuple #[.int .i64 (costOf ws cs).1, .int .i64 (costOf ws cs).2]) ∧ ∃ m, w' = w.drewN m) := by
  have HWD := Lib.hid hwd
  clear hwd
  by_cases h1 : ws.length < cs.length
  · have he : Hid (costOf ws cs = (0, 2)) := Lib.hid (if_pos (.inl h1))
    go_enter Try.func11, Try.ntmps11
    go_wp2
    go_ret2
    rw [he.out]
    exact ⟨rfl, 0, rfl⟩
  · go_enter Try.func11, Try.ntmps11
    go_wp2
    go_loopw [6] (fun iv wr => ∃ k : Nat, k ≤ cs.length ∧ iv = .int .i64 k ∧ Hid (costBad ws cs k = false) ∧ wr = w) (fun iv _ => cs.length - (intOf iv).toNat)
    case atStart => exact ⟨0, Nat.zero_le _, rfl, Lib.hid rfl, rfl⟩
    case round =>
      obtain ⟨k, hk, rfl, HB, rfl⟩ := hrel
      by_cases hlt : k < cs.length
      · obtain ⟨a, x, ha, hcx, hx⟩ := hr.out.num k hlt
        subst ha
        obtain ⟨_, hc2⟩ := h.out.at_ k (by omega)
        have hstep := Lib.hid (show costBad ws cs (k + 1) = (costBad ws cs k || (decide (cs.getD k 0 < 0) || (decide (0 < cs.getD k 0) && decide ((ws.getD k (0, 0)).2 = 0)))) from rfl)
        rw [hx.out, HB.out] at hstep
        generalize (ws.getD k (0, 0)).2 = y at *
        by_cases hx0 : x < 0
        · have hbad : Hid (costOf ws cs = (0, 2)) := Lib.hid (if_pos (.inr (costBad_mono _ _ (k + 1) _ hlt (by rw [hstep.out]; simp [hx0]))))
          clear hstep
          go_wp2
          go_ret2
          rw [hbad.out]
          exact ⟨rfl, 0, rfl⟩
        · by_cases hx1 : 0 < x
          · by_cases hy : y = 0
            · have hbad : Hid (costOf ws cs = (0, 2)) := Lib.hid (if_pos (.inr (costBad_mono _ _ (k + 1) _ hlt (by rw [hstep.out]; simp [hx1, hy]))))
              clear hstep
              go_wp2
              go_ret2
              rw [hbad.out]
              exact ⟨rfl, 0, rfl⟩
            · have hok : Hid (costBad ws cs (k + 1) = false) := Lib.hid (by rw [hstep.out]; simp [hx0, hy])
              clear hstep
              go_wp2
              exact ⟨⟨k + 1, by omega, by go_num, hok, trivial⟩, by simp [intOf]; omega⟩
          · have hok : Hid (costBad ws cs (k + 1) = false) := Lib.hid (by rw [hstep.out]; simp [hx0, hx1])
            clear hstep
            go_wp2
            exact ⟨⟨k + 1, by omega, by go_num, hok, trivial⟩, by simp [intOf]; omega⟩
      · obtain rfl : k = cs.length := by omega
        go_wp2
        go_loopw [7, 8] (fun sv iv w2 => ∃ k : Nat, k ≤ cs.length ∧ iv = .int .i64 k ∧ sv = .int .i64 (costSum ws cs k) ∧ Hid (costOver ws cs k = false) ∧ Hid (0 ≤ costSum ws cs k ∧ costSum ws cs k ≤ 4611686018427387904) ∧ ∃ m, w2 = wr.drewN m) (fun _ iv _ => cs.length - (intOf iv).toNat)
        case atStart => exact ⟨0, Nat.zero_le _, rfl, rfl, Lib.hid rfl, Lib.hid (by unfold costSum; omega), 0, rfl⟩
        case round =>
          obtain ⟨k, hk2, rfl, rfl, HO, HS, m, rfl⟩ := hrel
          by_cases hlt2 : k < cs.length
          · obtain ⟨a, x, ha, hcx, hx⟩ := hr.out.num k hlt2
            subst ha
            obtain ⟨_, hc2⟩ := h.out.at_ k (by omega)
            have hbad := costBad_at ws cs k cs.length hlt2 HB.out
            have hstep := Lib.hid (show costOver ws cs (k + 1) = (costOver ws cs k || (decide (0 < (ws.getD k (0, 0)).2) && decide ((4611686018427387904 - costSum ws cs k).tdiv (ws.getD k (0, 0)).2 < cs.getD k 0))) from rfl)
            have hsum := Lib.hid (show costSum ws cs (k + 1) = costSum ws cs k + cs.getD k 0 * (ws.getD k (0, 0)).2 from rfl)
            have hy := HWD.out.len k
            unfold lenAt at hbad hy
            rw [hx.out] at hstep hsum hbad
            rw [HO.out] at hstep
            have hs := HS.out
            clear HO HS
            generalize (ws.getD k (0, 0)).2 = y at *
            generalize costSum ws cs k = S at *
            by_cases hy0 : 0 < y
            · obtain ⟨hq0, hq1⟩ := cost_quo y S hy0 hs
              have hstp := cost_step x y S (by omega) hy.1 hs (by omega)
              generalize hqq : (4611686018427387904 - S).tdiv y = Q at *
              by_cases hqx : Q < x
              · have hov : Hid (costOf ws cs = (0, 3)) := Lib.hid (by
                  unfold costOf
                  rw [if_neg (by rw [HB.out]; simp; omega), if_pos (costOver_mono _ _ (k + 1) _ hlt2 (by rw [hstep.out]; simp [hy0, hqx]))])
                have hqd : decide (Q < x) = true := by simpa using hqx
                clear hstep hstp hsum
                go_wp2
                go_quiet (fail)
                go_wp2
                go_ret2
                rw [hov.out]
                exact ⟨rfl, m + nq, by rw [World.drewN_drewN]⟩
              · have hok : Hid (costOver ws cs (k + 1) = false) := Lib.hid (by rw [hstep.out]; simp; omega)
                have hqd : decide (Q < x) = false := by simpa using hqx
                clear hstep
                obtain ⟨hm0, hm1⟩ := hstp (by omega)
                generalize hX : x * y = X at *
                have hs2 : Hid (0 ≤ costSum ws cs (k + 1) ∧ costSum ws cs (k + 1) ≤ 4611686018427387904) := Lib.hid (by rw [hsum.out]; omega)
                have hsumv : Hid (Value.int .i64 (S + X) = .int .i64 (costSum ws cs (k + 1))) := Lib.hid (by rw [hsum.out])
                clear hsum
                go_wp2
                go_quiet (fail)
                go_wp2
                exact ⟨⟨k + 1, by omega, by go_num, hsumv.out, hok, hs2, m + nq, rfl⟩, by simp [intOf]; omega⟩
            · obtain rfl : y = 0 := by omega
              obtain rfl : x = 0 := by omega
              have hok : Hid (costOver ws cs (k + 1) = false) := Lib.hid (by rw [hstep.out]; simp)
              have hs2 : Hid (0 ≤ costSum ws cs (k + 1) ∧ costSum ws cs (k + 1) ≤ 4611686018427387904) := Lib.hid (by rw [hsum.out]; omega)
              have hsumv : Hid (Value.int .i64 S = .int .i64 (costSum ws cs (k + 1))) := Lib.hid (by rw [hsum.out]; simp)
              clear hsum hstep
              go_wp2
              go_quiet (fail)
              go_wp2
              exact ⟨⟨k + 1, by omega, by go_num, hsumv.out, hok, hs2, m + nq, rfl⟩, by simp [intOf]; omega⟩
          · obtain rfl : k = cs.length := by omega
            have hov : Hid (costOf ws cs = (costSum ws cs cs.length, 0)) := Lib.hid (by
              unfold costOf
              rw [if_neg (by rw [HB.out]; simp; omega), if_neg (by rw [HO.out]; simp)])
            go_wp2
            go_ret2
            rw [hov.out]
            exact ⟨rfl, _, rfl⟩
set_option maxHeartbeats 4000000 in
set_option maxRecDepth 100000 in
theorem cost10 {w : World} {g gw : Nat} {sl : Value} {F C P : Nat → Int} {ws : List (Int × Int)} {so : List Int} {most : Int} (A : Option Addr) (c : Nat) (cs : List Int) (hl : ws.length ≤ 65536) (hlc : cs.length ≤ 9223372036854775807) (hwd : Wd ws) (hcb : Hid (∀ x ∈ cs, x ≤ 9223372036854775807)) (h : Hid (CodeRd w g gw sl ws.length F C P ws so most)) (hr : Hid (Rd w A (cs.map (Value.int .i64)))) :
    Calls Try.prog 10 #[.pointer (some ⟨g, 0, none⟩), .slice A cs.length c] w (fun e w' => e = .returned (.tuple #[.int .i64 (costOf ws cs).1, .int .i64 (costOf ws cs).2]) ∧ w' = w) := by
  have h0 := blk_at h.out.blk 0
  rw [code_0] at h0
  have HWD := Lib.hid hwd
  clear hwd
  by_cases h1 : ws.length < cs.length
  · have he : Hid (costOf ws cs = (0, 2)) := Lib.hid (if_pos (.inl h1))
    go_enter Try.func10, Try.ntmps10
    go_wp2_with fail
    refine (none29 h).mono ?_
    rintro e w' ⟨rfl, rfl⟩
    go_wp2
    go_ret2
    rw [he.out]
    exact ⟨rfl, rfl⟩
  · go_enter Try.func10, Try.ntmps10
    go_wp2_with fail
    refine (none29 h).mono ?_
    rintro e w' ⟨rfl, rfl⟩
    go_wp2
    go_loopw [26] (fun iv wr => ∃ k : Nat, k ≤ cs.length ∧ iv = .int .i64 k ∧ Hid (costBad ws cs k = false) ∧ wr = w') (fun iv _ => cs.length - (intOf iv).toNat)
    case atStart => exact ⟨0, Nat.zero_le _, rfl, Lib.hid rfl, rfl⟩
    case round =>
      obtain ⟨k, hk, rfl, HB, rfl⟩ := hrel
      by_cases hlt : k < cs.length
      · obtain ⟨a, x, ha, hcx, hx⟩ := hr.out.num k hlt
        subst ha
        obtain ⟨_, hc2⟩ := h.out.wds.at_ k (by omega)
        have hstep := Lib.hid (show costBad ws cs (k + 1) = (costBad ws cs k || (decide (cs.getD k 0 < 0) || (decide (0 < cs.getD k 0) && decide ((ws.getD k (0, 0)).2 = 0)))) from rfl)
        rw [hx.out, HB.out] at hstep
        generalize (ws.getD k (0, 0)).2 = y at *
        by_cases hx0 : x < 0
        · have hbad : Hid (costOf ws cs = (0, 2)) := Lib.hid (if_pos (.inr (costBad_mono _ _ (k + 1) _ hlt (by rw [hstep.out]; simp [hx0]))))
          clear hstep
          go_wp2
          go_ret2
          rw [hbad.out]
          exact ⟨rfl, rfl⟩
        · by_cases hx1 : 0 < x
          · by_cases hy : y = 0
            · have hbad : Hid (costOf ws cs = (0, 2)) := Lib.hid (if_pos (.inr (costBad_mono _ _ (k + 1) _ hlt (by rw [hstep.out]; simp [hx1, hy]))))
              clear hstep
              go_wp2
              go_ret2
              rw [hbad.out]
              exact ⟨rfl, rfl⟩
            · have hok : Hid (costBad ws cs (k + 1) = false) := Lib.hid (by rw [hstep.out]; simp [hx0, hy])
              clear hstep
              go_wp2
              exact ⟨⟨k + 1, by omega, by go_num, hok, trivial⟩, by simp [intOf]; omega⟩
          · have hok : Hid (costBad ws cs (k + 1) = false) := Lib.hid (by rw [hstep.out]; simp [hx0, hx1])
            clear hstep
            go_wp2
            exact ⟨⟨k + 1, by omega, by go_num, hok, trivial⟩, by simp [intOf]; omega⟩
      · obtain rfl : k = cs.length := by omega
        go_wp2
        go_loopw [8, 51] (fun sv iv w2 => ∃ k : Nat, k ≤ cs.length ∧ iv = .int .i64 k ∧ sv = .int .i64 (costSum ws cs k) ∧ Hid (costOver ws cs k = false) ∧ Hid (0 ≤ costSum ws cs k ∧ costSum ws cs k ≤ 4611686018427387904) ∧ w2 = wr) (fun _ iv _ => cs.length - (intOf iv).toNat)
        case atStart => exact ⟨0, Nat.zero_le _, rfl, rfl, Lib.hid rfl, Lib.hid (by unfold costSum; omega), rfl⟩
        case round =>
          obtain ⟨k, hk2, rfl, rfl, HO, HS, rfl⟩ := hrel
          by_cases hlt2 : k < cs.length
          · obtain ⟨a, x, ha, hcx, hx⟩ := hr.out.num k hlt2
            subst ha
            obtain ⟨_, hc2⟩ := h.out.wds.at_ k (by omega)
            have hbad := costBad_at ws cs k cs.length hlt2 HB.out
            have hstep := Lib.hid (show costOver ws cs (k + 1) = (costOver ws cs k || (decide (0 < (ws.getD k (0, 0)).2) && decide ((4611686018427387904 - costSum ws cs k).tdiv (ws.getD k (0, 0)).2 < cs.getD k 0))) from rfl)
            have hsum := Lib.hid (show costSum ws cs (k + 1) = costSum ws cs k + cs.getD k 0 * (ws.getD k (0, 0)).2 from rfl)
            have hy := HWD.out.len k
            unfold lenAt at hbad hy
            rw [hx.out] at hstep hsum hbad
            rw [HO.out] at hstep
            have hs := HS.out
            clear HO HS
            generalize (ws.getD k (0, 0)).2 = y at *
            generalize costSum ws cs k = S at *
            by_cases hy0 : 0 < y
            · obtain ⟨hq0, hq1⟩ := cost_quo y S hy0 hs
              have hstp := cost_step x y S (by omega) hy.1 hs (by omega)
              generalize hqq : (4611686018427387904 - S).tdiv y = Q at *
              by_cases hqx : Q < x
              · have hov : Hid (costOf ws cs = (0, 3)) := Lib.hid (by
                  unfold costOf
                  rw [if_neg (by rw [HB.out]; simp; omega), if_pos (costOver_mono _ _ (k + 1) _ hlt2 (by rw [hstep.out]; simp [hy0, hqx]))])
                have hqd : decide (Q < x) = true := by simpa using hqx
                clear hstep hstp hsum
                go_wp2
                go_ret2
                rw [hov.out]
                exact ⟨rfl, rfl⟩
              · have hok : Hid (costOver ws cs (k + 1) = false) := Lib.hid (by rw [hstep.out]; simp; omega)
                have hqd : decide (Q < x) = false := by simpa using hqx
                clear hstep
                obtain ⟨hm0, hm1⟩ := hstp (by omega)
                generalize hX : x * y = X at *
                have hs2 : Hid (0 ≤ costSum ws cs (k + 1) ∧ costSum ws cs (k + 1) ≤ 4611686018427387904) := Lib.hid (by rw [hsum.out]; omega)
                have hsumv : Hid (Value.int .i64 (S + X) = .int .i64 (costSum ws cs (k + 1))) := Lib.hid (by rw [hsum.out])
                clear hsum
                go_wp2
                exact ⟨⟨k + 1, by omega, by go_num, hsumv.out, hok, hs2, trivial⟩, by simp [intOf]; omega⟩
            · obtain rfl : y = 0 := by omega
              obtain rfl : x = 0 := by omega
              have hok : Hid (costOver ws cs (k + 1) = false) := Lib.hid (by rw [hstep.out]; simp)
              have hs2 : Hid (0 ≤ costSum ws cs (k + 1) ∧ costSum ws cs (k + 1) ≤ 4611686018427387904) := Lib.hid (by rw [hsum.out]; omega)
              have hsumv : Hid (Value.int .i64 S = .int .i64 (costSum ws cs (k + 1))) := Lib.hid (by rw [hsum.out]; simp)
              clear hsum hstep
              go_wp2
              exact ⟨⟨k + 1, by omega, by go_num, hsumv.out, hok, hs2, trivial⟩, by simp [intOf]; omega⟩
          · obtain rfl : k = cs.length := by omega
            have hov : Hid (costOf ws cs = (costSum ws cs cs.length, 0)) := Lib.hid (by
              unfold costOf
              rw [if_neg (by rw [HB.out]; simp; omega), if_neg (by rw [HO.out]; simp)])
            go_wp2
            go_ret2
            rw [hov.out]
            exact ⟨rfl, rfl⟩
end Go.Proofs.Ytejieakikboedaa
