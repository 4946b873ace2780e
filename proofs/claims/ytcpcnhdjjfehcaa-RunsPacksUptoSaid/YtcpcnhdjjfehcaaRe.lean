/- The contract of the reference's Pack (runs), over the seat's program. -/
import Derived.Test.YtcpcnhdjjfehcaaRd
namespace Go.Proofs.Ytcpcnhdjjfehcaa
open Go.RowKit Go.Proofs.YtcpcnhdjjfehcaaK
set_option linter.unusedVariables false
set_option linter.unusedSimpArgs false
theorem getD_drop (l : List Int) (a i : Nat) : (l.drop a).getD i 0 = l.getD (a + i) 0 := by
  rw [List.getD_eq_getElem?_getD, List.getD_eq_getElem?_getD, List.getElem?_drop]
set_option maxHeartbeats 2000000 in
set_option maxRecDepth 100000 in
theorem pack26 (A : Option Addr) (c : Nat) (l : List Int) (w : World) (hl : l.length ≤ 2000000)
    (hr : Rd w A (l.map (Value.int .u8))) : Calls Try.prog 26 #[.slice A l.length c] w (GaveBs w (packAll l)) := by
  have HR := Lib.hid hr
  clear hr
  go_enter Try.func26, Try.ntmps26
  go_wp2_with fail
  go_loopw [3, 4] (fun v p wr => ∃ (at_ : Nat) (out : List Int), p = .int .i64 at_ ∧ at_ ≤ l.length ∧ out.length ≤ 2 * at_ ∧ Hid (out ++ packAll (l.drop at_) = packAll l) ∧ Hid (wr.ownsRow w.heap.size 5 1 v out.length (out.map (Value.int .u8))) ∧ Hid (Below w.heap.size w wr) ∧ w.heap.size ≤ wr.heap.size) (fun _ p _ => l.length - (intOf p).toNat)
  case atStart => exact ⟨0, [], rfl, Nat.zero_le _, by simp, Lib.hid (by simp), Lib.hid (nil_own _ _ _), Lib.hid (Below.refl _ _), Nat.le_refl _⟩
  case round =>
    obtain ⟨q, out, rfl, hq, hol, HP, HO, HB, hsz⟩ := hrel
    by_cases h0 : q < l.length
    · obtain ⟨a, x, rfl, hcx, hx⟩ := HR.out.num q h0
      have hrl : (l.drop q).length = l.length - q := List.length_drop ..
      have h0r : 0 < (l.drop q).length := by omega
      have hx0 : Hid ((l.drop q).getD 0 0 = x) := Lib.hid ((getD_drop l q 0).trans hx.out)
      have HRun := Lib.hid (runLen_all h0r)
      have Hrl := Lib.hid hrl
      have HF0 := Lib.hid (runFrom_zero h0r)
      clear hrl h0r hcx
      have Hdd : Hid (∀ n, (l.drop q).drop n = l.drop (q + n)) := Lib.hid (fun n => List.drop_drop ..)
      have Hgd : Hid (∀ n, (l.drop q).getD n 0 = l.getD (q + n) 0) := Lib.hid (fun n => getD_drop l q n)
      generalize l.drop q = r at *
      obtain ⟨wo, rfl⟩ : ∃ wo : World, wo = wr := ⟨_, rfl⟩
      go_wp2_with fail
      go_loopw [5] (fun v wi => ∃ n : Nat, n ≤ 259 ∧ q + n ≤ l.length ∧ v = .int .i64 n ∧ Hid (runFrom r (259 - n) n = runLen r) ∧ Hid (wi.ownsRow w.heap.size 5 1 u3 out.length (out.map (Value.int .u8))) ∧ Hid (Below w.heap.size w wi) ∧ w.heap.size ≤ wi.heap.size) (fun v _ => 259 - (intOf v).toNat)
      case atStart => exact ⟨0, by omega, by omega, rfl, HF0, HO, HB, hsz⟩
      case round =>
        obtain ⟨n, hn2, hn3, rfl, HF, HOi, HBi, hszi⟩ := hrel
        obtain ⟨wi, rfl⟩ : ∃ wi : World, wi = wr := ⟨_, rfl⟩
        by_cases hk1 : q + n < l.length
        · have hd1 : decide (q + n < l.length) = true := decide_eq_true hk1
          have hd2 : decide ((q : Int) + (n : Int) < (l.length : Int)) = true := decide_eq_true (by omega)
          by_cases hk2 : n < 259
          · have hd3 : decide (n < 259) = true := decide_eq_true hk2
            have hd4 : decide ((n : Int) < 259) = true := decide_eq_true (by omega)
            obtain ⟨a0, x0, ha0, hcx0, hx0b⟩ := (HR.out.below HBi.out).num (q) h0
            injection ha0 with ha0
            subst ha0
            obtain ⟨an, xn, han, hcxn, hxn⟩ := (HR.out.below HBi.out).num (q + n) hk1
            injection han with han
            subst han
            have hxx : x = x0 := hx.out.symm.trans hx0b.out
            subst hxx
            clear hx0b
            by_cases heq : xn = x
            · have hst := Lib.hid (runFrom_step HF.out hk2 (by rw [Hrl.out]; omega) ((Hgd.out n).trans (hxn.out.trans (heq.trans hx0.out.symm))))
              subst heq
              clear hxn
              go_wp2
              go_quiet (fail)
              go_wp2
              go_roundw
              case rel => exact ⟨n + 1, by omega, by omega, by go_num, hst, own_drewN HOi nq, bel_drewN HBi nq, by simpa using hszi⟩
              case measure => simp [intOf]; omega
            · have hbx : (xn == x) = false := by simp [heq]
              have hen := Lib.hid (runFrom_end HF.out (fun h => heq (hxn.out.symm.trans ((Hgd.out n).symm.trans (h.2.2.trans hx0.out)))))
              clear HF
              go_wp2
              go_quiet (fail)
              have HOq := own_drewN HOi nq
              have HBq := bel_drewN HBi nq
              have hszq : w.heap.size ≤ (wi.drewN nq).heap.size := hszi
              generalize wi.drewN nq = wj at *
              have hRl := HRun.out
              have hn1 : 1 ≤ n := by have := hRl.1; rw [hen.out] at this; exact this
              clear hRl
              have hcl := Lib.hid (pack_rep (by rw [Hrl.out]; omega) hx0.out hen.out HP.out)
              go_wp2
              go_loopw [3, 6] (fun v j wk => ∃ m : Nat, m ≤ n ∧ m ≤ 4 ∧ j = .int .i64 m ∧ Hid (wk.ownsRow w.heap.size 5 1 v (out.length + m) ((out ++ List.replicate m x).map (Value.int .u8))) ∧ Hid (Below w.heap.size w wk) ∧ w.heap.size ≤ wk.heap.size) (fun _ j _ => 4 - (intOf j).toNat)
              case atStart => exact ⟨0, by omega, by omega, rfl, Lib.hid (by simpa using HOq.out), HBq, hszq⟩
              case round =>
                obtain ⟨m, hm1, hm2, rfl, HOk, HBk, hszk⟩ := hrel
                by_cases hmc : m < n ∧ m < 4
                · obtain ⟨hmc1, hmc2⟩ := hmc
                  obtain ⟨a4, x4, ha4, hcx4, hx4⟩ := (HR.out.below HBk.out).num q h0
                  injection ha4 with ha4
                  subst ha4
                  have hxx4 : x = x4 := hx.out.symm.trans hx4.out
                  subst hxx4
                  clear hx4
                  go_wp2_with (at_builtin; refine wpList_app1 rfl (.tmp 45) (.tmp 50) 22 5 (.int .u8 0) 1 rfl Try.underlying22 info5 rfl w.heap.size w.heap.size w _ _ _ rfl HOk (.int .u8 _) rfl rfl (by omega) (by omega) hszk (Nat.le_refl _) HBk ?_; intro v' w3 HO3 HB3 hsz3)
                  go_roundw
                  case rel =>
                    refine ⟨m + 1, by omega, by omega, by go_num, Lib.hid ?_, HB3, by omega⟩
                    rw [List.replicate_succ', ← List.append_assoc, List.map_append]
                    exact HO3.out
                  case measure => simp [intOf]; omega
                · have hme := Lib.hid (show m = min n 4 by omega)
                  by_cases hn4 : 4 ≤ n
                  · have hcl2 := hcl.out
                    rw [if_pos hn4, ← hme.out, Hdd.out] at hcl2
                    have Hcl2 := Lib.hid hcl2
                    clear hcl2
                    have hor : (m < n ∧ ¬ m < 4) ∨ ¬ m < n := by omega
                    clear hmc
                    rcases hor with ⟨hmn, hm4⟩ | hmn
                    all_goals first | (exfalso; omega) | skip
                    all_goals
                      go_wp2_with (at_builtin; refine wpList_app1 rfl (.tmp 54) (.tmp 58) 22 5 (.int .u8 0) 1 rfl Try.underlying22 info5 rfl w.heap.size w.heap.size w _ _ _ rfl HOk _ rfl rfl (by omega) (by omega) hszk (Nat.le_refl _) HBk ?_; intro v' w3 HO3 HB3 hsz3)
                      refine ⟨⟨q + n, out ++ List.replicate m x ++ [(n : Int) - 4], by go_num, by omega, ?_, Hcl2, Lib.hid ?_, HB3, by omega⟩, ?_⟩
                      · rw [List.length_append, List.length_append, List.length_replicate, List.length_singleton]; omega
                      · rw [List.length_append, List.length_append, List.length_replicate, List.length_singleton, List.map_append]
                        exact HO3.out
                      · first | (simp [intOf]; done) | (simp [intOf]; omega)
                  · have hcl2 := hcl.out
                    rw [if_neg hn4, ← hme.out, Hdd.out, List.append_nil] at hcl2
                    have Hcl2 := Lib.hid hcl2
                    clear hcl2
                    have hmn : ¬ m < n := by omega
                    clear hmc
                    all_goals first | (exfalso; omega) | skip
                    all_goals
                      go_wp2
                      refine ⟨⟨q + n, out ++ List.replicate m x, by go_num, by omega, ?_, Hcl2, Lib.hid ?_, HBk, by omega⟩, ?_⟩
                      · rw [List.length_append, List.length_replicate]; omega
                      · rw [List.length_append, List.length_replicate]
                        exact HOk.out
                      · first | (simp [intOf]; done) | (simp [intOf]; omega)
          · have hd3 : decide (n < 259) = false := decide_eq_false hk2
            have hd4 : decide ((n : Int) < 259) = false := decide_eq_false (by omega)
            have hen := Lib.hid (runFrom_end HF.out (fun h => hk2 h.1))
            clear HF
            go_wp2
            go_quiet (fail)
            have HOq := own_drewN HOi nq
            have HBq := bel_drewN HBi nq
            have hszq : w.heap.size ≤ (wi.drewN nq).heap.size := hszi
            generalize wi.drewN nq = wj at *
            have hRl := HRun.out
            have hn1 : 1 ≤ n := by have := hRl.1; rw [hen.out] at this; exact this
            clear hRl
            have hcl := Lib.hid (pack_rep (by rw [Hrl.out]; omega) hx0.out hen.out HP.out)
            go_wp2
            go_loopw [3, 6] (fun v j wk => ∃ m : Nat, m ≤ n ∧ m ≤ 4 ∧ j = .int .i64 m ∧ Hid (wk.ownsRow w.heap.size 5 1 v (out.length + m) ((out ++ List.replicate m x).map (Value.int .u8))) ∧ Hid (Below w.heap.size w wk) ∧ w.heap.size ≤ wk.heap.size) (fun _ j _ => 4 - (intOf j).toNat)
            case atStart => exact ⟨0, by omega, by omega, rfl, Lib.hid (by simpa using HOq.out), HBq, hszq⟩
            case round =>
              obtain ⟨m, hm1, hm2, rfl, HOk, HBk, hszk⟩ := hrel
              by_cases hmc : m < n ∧ m < 4
              · obtain ⟨hmc1, hmc2⟩ := hmc
                obtain ⟨a4, x4, ha4, hcx4, hx4⟩ := (HR.out.below HBk.out).num q h0
                injection ha4 with ha4
                subst ha4
                have hxx4 : x = x4 := hx.out.symm.trans hx4.out
                subst hxx4
                clear hx4
                go_wp2_with (at_builtin; refine wpList_app1 rfl (.tmp 45) (.tmp 50) 22 5 (.int .u8 0) 1 rfl Try.underlying22 info5 rfl w.heap.size w.heap.size w _ _ _ rfl HOk (.int .u8 _) rfl rfl (by omega) (by omega) hszk (Nat.le_refl _) HBk ?_; intro v' w3 HO3 HB3 hsz3)
                go_roundw
                case rel =>
                  refine ⟨m + 1, by omega, by omega, by go_num, Lib.hid ?_, HB3, by omega⟩
                  rw [List.replicate_succ', ← List.append_assoc, List.map_append]
                  exact HO3.out
                case measure => simp [intOf]; omega
              · have hme := Lib.hid (show m = min n 4 by omega)
                by_cases hn4 : 4 ≤ n
                · have hcl2 := hcl.out
                  rw [if_pos hn4, ← hme.out, Hdd.out] at hcl2
                  have Hcl2 := Lib.hid hcl2
                  clear hcl2
                  have hor : (m < n ∧ ¬ m < 4) ∨ ¬ m < n := by omega
                  clear hmc
                  rcases hor with ⟨hmn, hm4⟩ | hmn
                  all_goals first | (exfalso; omega) | skip
                  all_goals
                    go_wp2_with (at_builtin; refine wpList_app1 rfl (.tmp 54) (.tmp 58) 22 5 (.int .u8 0) 1 rfl Try.underlying22 info5 rfl w.heap.size w.heap.size w _ _ _ rfl HOk _ rfl rfl (by omega) (by omega) hszk (Nat.le_refl _) HBk ?_; intro v' w3 HO3 HB3 hsz3)
                    refine ⟨⟨q + n, out ++ List.replicate m x ++ [(n : Int) - 4], by go_num, by omega, ?_, Hcl2, Lib.hid ?_, HB3, by omega⟩, ?_⟩
                    · rw [List.length_append, List.length_append, List.length_replicate, List.length_singleton]; omega
                    · rw [List.length_append, List.length_append, List.length_replicate, List.length_singleton, List.map_append]
                      exact HO3.out
                    · first | (simp [intOf]; done) | (simp [intOf]; omega)
                · have hcl2 := hcl.out
                  rw [if_neg hn4, ← hme.out, Hdd.out, List.append_nil] at hcl2
                  have Hcl2 := Lib.hid hcl2
                  clear hcl2
                  have hmn : ¬ m < n := by omega
                  clear hmc
                  all_goals first | (exfalso; omega) | skip
                  all_goals
                    go_wp2
                    refine ⟨⟨q + n, out ++ List.replicate m x, by go_num, by omega, ?_, Hcl2, Lib.hid ?_, HBk, by omega⟩, ?_⟩
                    · rw [List.length_append, List.length_replicate]; omega
                    · rw [List.length_append, List.length_replicate]
                      exact HOk.out
                    · first | (simp [intOf]; done) | (simp [intOf]; omega)
        · have hd1 : decide (q + n < l.length) = false := decide_eq_false hk1
          have hd2 : decide ((q : Int) + (n : Int) < (l.length : Int)) = false := decide_eq_false (by omega)
          have hen := Lib.hid (runFrom_end HF.out (fun h => hk1 (by have := h.2.1; rw [Hrl.out] at this; omega)))
          clear HF
          go_wp2
          go_quiet (fail)
          have HOq := own_drewN HOi nq
          have HBq := bel_drewN HBi nq
          have hszq : w.heap.size ≤ (wi.drewN nq).heap.size := hszi
          generalize wi.drewN nq = wj at *
          have hRl := HRun.out
          have hn1 : 1 ≤ n := by have := hRl.1; rw [hen.out] at this; exact this
          clear hRl
          have hcl := Lib.hid (pack_rep (by rw [Hrl.out]; omega) hx0.out hen.out HP.out)
          go_wp2
          go_loopw [3, 6] (fun v j wk => ∃ m : Nat, m ≤ n ∧ m ≤ 4 ∧ j = .int .i64 m ∧ Hid (wk.ownsRow w.heap.size 5 1 v (out.length + m) ((out ++ List.replicate m x).map (Value.int .u8))) ∧ Hid (Below w.heap.size w wk) ∧ w.heap.size ≤ wk.heap.size) (fun _ j _ => 4 - (intOf j).toNat)
          case atStart => exact ⟨0, by omega, by omega, rfl, Lib.hid (by simpa using HOq.out), HBq, hszq⟩
          case round =>
            obtain ⟨m, hm1, hm2, rfl, HOk, HBk, hszk⟩ := hrel
            by_cases hmc : m < n ∧ m < 4
            · obtain ⟨hmc1, hmc2⟩ := hmc
              obtain ⟨a4, x4, ha4, hcx4, hx4⟩ := (HR.out.below HBk.out).num q h0
              injection ha4 with ha4
              subst ha4
              have hxx4 : x = x4 := hx.out.symm.trans hx4.out
              subst hxx4
              clear hx4
              go_wp2_with (at_builtin; refine wpList_app1 rfl (.tmp 45) (.tmp 50) 22 5 (.int .u8 0) 1 rfl Try.underlying22 info5 rfl w.heap.size w.heap.size w _ _ _ rfl HOk (.int .u8 _) rfl rfl (by omega) (by omega) hszk (Nat.le_refl _) HBk ?_; intro v' w3 HO3 HB3 hsz3)
              go_roundw
              case rel =>
                refine ⟨m + 1, by omega, by omega, by go_num, Lib.hid ?_, HB3, by omega⟩
                rw [List.replicate_succ', ← List.append_assoc, List.map_append]
                exact HO3.out
              case measure => simp [intOf]; omega
            · have hme := Lib.hid (show m = min n 4 by omega)
              by_cases hn4 : 4 ≤ n
              · have hcl2 := hcl.out
                rw [if_pos hn4, ← hme.out, Hdd.out] at hcl2
                have Hcl2 := Lib.hid hcl2
                clear hcl2
                have hor : (m < n ∧ ¬ m < 4) ∨ ¬ m < n := by omega
                clear hmc
                rcases hor with ⟨hmn, hm4⟩ | hmn
                all_goals first | (exfalso; omega) | skip
                all_goals
                  go_wp2_with (at_builtin; refine wpList_app1 rfl (.tmp 54) (.tmp 58) 22 5 (.int .u8 0) 1 rfl Try.underlying22 info5 rfl w.heap.size w.heap.size w _ _ _ rfl HOk _ rfl rfl (by omega) (by omega) hszk (Nat.le_refl _) HBk ?_; intro v' w3 HO3 HB3 hsz3)
                  refine ⟨⟨q + n, out ++ List.replicate m x ++ [(n : Int) - 4], by go_num, by omega, ?_, Hcl2, Lib.hid ?_, HB3, by omega⟩, ?_⟩
                  · rw [List.length_append, List.length_append, List.length_replicate, List.length_singleton]; omega
                  · rw [List.length_append, List.length_append, List.length_replicate, List.length_singleton, List.map_append]
                    exact HO3.out
                  · first | (simp [intOf]; done) | (simp [intOf]; omega)
              · have hcl2 := hcl.out
                rw [if_neg hn4, ← hme.out, Hdd.out, List.append_nil] at hcl2
                have Hcl2 := Lib.hid hcl2
                clear hcl2
                have hmn : ¬ m < n := by omega
                clear hmc
                all_goals first | (exfalso; omega) | skip
                all_goals
                  go_wp2
                  refine ⟨⟨q + n, out ++ List.replicate m x, by go_num, by omega, ?_, Hcl2, Lib.hid ?_, HBk, by omega⟩, ?_⟩
                  · rw [List.length_append, List.length_replicate]; omega
                  · rw [List.length_append, List.length_replicate]
                    exact HOk.out
                  · first | (simp [intOf]; done) | (simp [intOf]; omega)
    · obtain rfl : q = l.length := by omega
      obtain ⟨A2, cv, hv, _⟩ := own_slice HO.out
      subst hv
      go_wp2
      go_ret
      have hp := HP.out
      rw [List.drop_length, pack_nil, List.append_nil] at hp
      rw [← hp]
      exact ⟨A2, cv, rfl, HO, HB, hsz⟩
end Go.Proofs.Ytcpcnhdjjfehcaa
