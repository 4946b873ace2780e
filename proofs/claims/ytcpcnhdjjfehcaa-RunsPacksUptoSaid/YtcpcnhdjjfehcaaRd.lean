/- The contract of runs.Pack, over the seat's program. -/
import Derived.Test.YtcpcnhdjjfehcaaRc
import Derived.Test.YtcpcnhdjjfehcaaRp
namespace Go.Proofs.Ytcpcnhdjjfehcaa
open Go.RowKit Go.Proofs.YtcpcnhdjjfehcaaK
set_option linter.unusedVariables false
set_option linter.unusedSimpArgs false
/-- A list of bytes of the call's own is handed back. -/
def GaveBs (w : World) (r : List Int) (e : Ending) (w' : World) : Prop := ∃ A c, e = .returned (.slice A r.length c) ∧ Hid (w'.ownsRow w.heap.size 5 1 (.slice A r.length c) r.length (r.map (Value.int .u8))) ∧ Hid (Below w.heap.size w w') ∧ w.heap.size ≤ w'.heap.size
set_option maxHeartbeats 2000000 in
set_option maxRecDepth 100000 in
theorem pack28 (A : Option Addr) (c : Nat) (l : List Int) (w : World) (hl : l.length ≤ 2000000) (hc : l.length ≤ c) (hcm : c ≤ 9223372036854775807)
    (hr : Rd w A (l.map (Value.int .u8))) : Calls Try.prog 28 #[.slice A l.length c] w (GaveBs w (packAll l)) := by
  have HR := Lib.hid hr
  clear hr
  go_enter Try.func28, Try.ntmps28
  go_wp2_with fail
  go_loopw [0, 3] (fun b v wr => ∃ (A' : Option Addr) (c' : Nat) (r out : List Int), b = .slice A' r.length c' ∧ r.length ≤ c' ∧ c' ≤ 9223372036854775807 ∧ r.length ≤ l.length ∧ out.length ≤ 2 * (l.length - r.length) ∧ Hid (Rd w A' (r.map (Value.int .u8))) ∧ Hid (out ++ packAll r = packAll l) ∧ Hid (wr.ownsRow w.heap.size 5 1 v out.length (out.map (Value.int .u8))) ∧ Hid (Below w.heap.size w wr) ∧ w.heap.size ≤ wr.heap.size) (fun b _ _ => match b with | .slice _ n _ => n | _ => 0)
  case atStart => exact ⟨A, c, l, [], rfl, hc, hcm, Nat.le_refl _, by simp, HR, Lib.hid (by simp), Lib.hid (nil_own _ _ _), Lib.hid (Below.refl _ _), Nat.le_refl _⟩
  case round =>
    obtain ⟨A', c', r, out, rfl, hrc, hcm', hrl, hol, HRr, HP, HO, HB, hsz⟩ := hrel
    by_cases h0 : 0 < r.length
    · obtain ⟨a, x, rfl, hcx, hx⟩ := HRr.out.num 0 h0
      have HX := Lib.hid hcx
      clear hcx
      have HRun := Lib.hid (runLen_all h0)
      obtain ⟨wo, rfl⟩ : ∃ wo : World, wo = wr := ⟨_, rfl⟩
      go_wp2_with fail
      go_loopw [4] (fun v wi => ∃ n : Nat, 1 ≤ n ∧ n ≤ 259 ∧ n ≤ r.length ∧ v = .int .i64 n ∧ Hid (runFrom r (259 - n) n = runLen r) ∧ Hid (wi.ownsRow w.heap.size 5 1 u3 out.length (out.map (Value.int .u8))) ∧ Hid (Below w.heap.size w wi) ∧ w.heap.size ≤ wi.heap.size) (fun v _ => 259 - (intOf v).toNat)
      case atStart => exact ⟨1, Nat.le_refl _, by omega, h0, rfl, Lib.hid rfl, HO, HB, hsz⟩
      case round =>
        obtain ⟨n, hn1, hn2, hn3, rfl, HF, HOi, HBi, hszi⟩ := hrel
        have hc0 := (((HRr.out.below HBi.out).num 0 h0))
        obtain ⟨a0, x0, ha0, hcx0, hx0⟩ := hc0
        injection ha0 with ha0
        subst ha0
        have hxx : x0 = x := hx0.out.symm.trans hx.out
        subst hxx
        clear hx0
        have haz : a.add 0 = a := by simp [Addr.add]
        rw [haz] at hcx0
        clear haz
        obtain ⟨mm, hmm1, hmm2, hmn, hmm3⟩ : ∃ mm : Nat, mm ≤ r.length ∧ mm ≤ 259 ∧ (if 259 < (r.length : Int) then (259 : Int) else (r.length : Int)) = (mm : Int) ∧ (n < mm ↔ n < 259 ∧ n < r.length) := ⟨min r.length 259, by omega, by omega, by split <;> omega, by omega⟩
        by_cases hcont : n < 259 ∧ n < r.length
        · obtain ⟨hk1, hk2⟩ := hcont
          obtain ⟨an, xn, han, hcxn, hxn⟩ := (HRr.out.below HBi.out).num n hk2
          injection han with han
          subst han
          have hlt2 : n < mm := hmm3.2 ⟨hk1, hk2⟩
          clear hmm3
          have hd1 : decide (n < mm) = true := decide_eq_true hlt2
          have hd2 : decide ((n : Int) < (mm : Int)) = true := decide_eq_true (by omega)
          by_cases heq : xn = x0
          · have hst := Lib.hid (runFrom_step HF.out hk1 hk2 (hxn.out.trans (heq.trans hx.out.symm)))
            subst heq
            go_wp2
            go_quiet (fail)
            go_wp2
            go_roundw
            case rel => exact ⟨n + 1, by omega, by omega, by omega, by go_num, hst, own_drewN HOi nq, bel_drewN HBi nq, by simpa using hszi⟩
            case measure => simp [intOf]; omega
          · have hen := Lib.hid (runFrom_end HF.out (fun h => heq (hxn.out.symm.trans (h.2.2.trans hx.out))))
            clear HF
            obtain ⟨wi, rfl⟩ : ∃ wi : World, wi = wr := ⟨_, rfl⟩
            go_wp2
            go_quiet (fail)
            have HOq := own_drewN HOi nq
            have HBq := bel_drewN HBi nq
            have hszq : w.heap.size ≤ (wi.drewN nq).heap.size := hszi
            obtain ⟨m4, hm1, hm2, hm3, hm5, hm6⟩ : ∃ m4 : Nat, m4 ≤ 4 ∧ m4 ≤ n ∧ 1 ≤ m4 ∧ (if 4 < (n : Int) then (4 : Int) else (n : Int)) = (m4 : Int) ∧ m4 = min n 4 := ⟨min n 4, by omega, by omega, by omega, by split <;> omega, rfl⟩
            have Hm6 := Lib.hid hm6
            clear hm6
            have HRq := Lib.hid ((HRr.out.below HBq.out).take m4)
            rw [← List.map_take] at HRq
            have hlen := Lib.hid (show ((r.take m4).map (Value.int .u8)).length = m4 by rw [List.length_map, List.length_take]; omega)
            have hln := Lib.hid (show (r.drop n).length = r.length - n from List.length_drop ..)
            have htl := Lib.hid (show (r.take m4).length = m4 by rw [List.length_take]; omega)
            by_cases hn4 : 4 ≤ n
            · have hcl := Lib.hid (pack_close4 h0 hen.out Hm6.out HP.out hn4)
              go_wp2_with (first
                | ((with_reducible refine gate_builtin (b := .append) (xs := #[.tmp 25, .tmp 29]) rfl ?_); refine wpList_appRowAt rfl (.tmp 25) (.tmp 29) 22 5 (.int .u8 0) 1 rfl Try.underlying22 info5 rfl w.heap.size w.heap.size w _ _ _ rfl HOq a _ _ rfl _ hlen HRq (Lib.hid (ints_one _ _)) (by omega) (by omega) hszq (Nat.le_refl _) HBq ?_; intro v1 w3 HO3 HB3 HBW3 hsz3)
                | ((with_reducible refine gate_builtin (b := .append) (xs := #[.tmp 33, .tmp 37]) rfl ?_); refine wpList_app1 rfl (.tmp 33) (.tmp 37) 22 5 (.int .u8 0) 1 rfl Try.underlying22 info5 rfl w.heap.size w.heap.size w _ _ _ rfl HO3 _ rfl rfl (by omega) (by omega) (by omega) (Nat.le_refl _) HB3 ?_; intro v2 w4 HO4 HB4 hsz4))
              refine ⟨⟨_, c' - n, r.drop n, out ++ r.take m4 ++ [(n : Int) - 4], by rw [hln.out], by rw [hln.out]; omega, by omega, by rw [hln.out]; omega, ?_, Lib.hid (by rw [List.map_drop]; exact HRr.out.drop n), hcl, Lib.hid ?_, HB4, by omega⟩, ?_⟩
              · rw [List.length_append, List.length_append, htl.out, hln.out, List.length_singleton]; omega
              · rw [List.length_append, List.length_append, htl.out, List.length_singleton, List.map_append, List.map_append]
                exact HO4.out
              · show r.length - n < r.length
                omega
            · have hcl := Lib.hid (pack_close0 h0 hen.out Hm6.out HP.out hn4)
              go_wp2_with ((with_reducible refine gate_builtin (b := .append) (xs := #[.tmp 25, .tmp 29]) rfl ?_); refine wpList_appRowAt rfl (.tmp 25) (.tmp 29) 22 5 (.int .u8 0) 1 rfl Try.underlying22 info5 rfl w.heap.size w.heap.size w _ _ _ rfl HOq a _ _ rfl _ hlen HRq (Lib.hid (ints_one _ _)) (by omega) (by omega) hszq (Nat.le_refl _) HBq ?_; intro v1 w3 HO3 HB3 HBW3 hsz3)
              refine ⟨⟨_, c' - n, r.drop n, out ++ r.take m4, by rw [hln.out], by rw [hln.out]; omega, by omega, by rw [hln.out]; omega, ?_, Lib.hid (by rw [List.map_drop]; exact HRr.out.drop n), hcl, Lib.hid ?_, HB3, by omega⟩, ?_⟩
              · rw [List.length_append, htl.out, hln.out]; omega
              · rw [List.length_append, htl.out, List.map_append]
                exact HO3.out
              · show r.length - n < r.length
                omega
        · have hen := Lib.hid (runFrom_end HF.out (fun h => hcont ⟨h.1, h.2.1⟩))
          have hge : ¬ n < mm := fun h => hcont (hmm3.1 h)
          clear HF hmm3 hcont
          have hd1 : decide (n < mm) = false := decide_eq_false hge
          have hd2 : decide ((n : Int) < (mm : Int)) = false := decide_eq_false (by omega)
          obtain ⟨wi, rfl⟩ : ∃ wi : World, wi = wr := ⟨_, rfl⟩
          go_wp2
          go_quiet (fail)
          have HOq := own_drewN HOi nq
          have HBq := bel_drewN HBi nq
          have hszq : w.heap.size ≤ (wi.drewN nq).heap.size := hszi
          obtain ⟨m4, hm1, hm2, hm3, hm5, hm6⟩ : ∃ m4 : Nat, m4 ≤ 4 ∧ m4 ≤ n ∧ 1 ≤ m4 ∧ (if 4 < (n : Int) then (4 : Int) else (n : Int)) = (m4 : Int) ∧ m4 = min n 4 := ⟨min n 4, by omega, by omega, by omega, by split <;> omega, rfl⟩
          have Hm6 := Lib.hid hm6
          clear hm6
          have HRq := Lib.hid ((HRr.out.below HBq.out).take m4)
          rw [← List.map_take] at HRq
          have hlen := Lib.hid (show ((r.take m4).map (Value.int .u8)).length = m4 by rw [List.length_map, List.length_take]; omega)
          have hln := Lib.hid (show (r.drop n).length = r.length - n from List.length_drop ..)
          have htl := Lib.hid (show (r.take m4).length = m4 by rw [List.length_take]; omega)
          have AD : ∀ A'', Hid (A'' = (if c' = n then some a else some (a.add n))) → Hid (Rd w A'' ((r.drop n).map (Value.int .u8))) := fun A'' e => Lib.hid (by
            rw [e.out]
            split
            · rw [List.drop_of_length_le (by omega)]; exact Rd.nil _ _
            · rw [List.map_drop]; exact HRr.out.drop n)
          by_cases hn4 : 4 ≤ n
          · have hcl := Lib.hid (pack_close4 h0 hen.out Hm6.out HP.out hn4)
            go_wp2_with (first
              | ((with_reducible refine gate_builtin (b := .append) (xs := #[.tmp 25, .tmp 29]) rfl ?_); refine wpList_appRowAt rfl (.tmp 25) (.tmp 29) 22 5 (.int .u8 0) 1 rfl Try.underlying22 info5 rfl w.heap.size w.heap.size w _ _ _ rfl HOq a _ _ rfl _ hlen HRq (Lib.hid (ints_one _ _)) (by omega) (by omega) hszq (Nat.le_refl _) HBq ?_; intro v1 w3 HO3 HB3 HBW3 hsz3)
              | ((with_reducible refine gate_builtin (b := .append) (xs := #[.tmp 33, .tmp 37]) rfl ?_); refine wpList_app1 rfl (.tmp 33) (.tmp 37) 22 5 (.int .u8 0) 1 rfl Try.underlying22 info5 rfl w.heap.size w.heap.size w _ _ _ rfl HO3 _ rfl rfl (by omega) (by omega) (by omega) (Nat.le_refl _) HB3 ?_; intro v2 w4 HO4 HB4 hsz4))
            refine ⟨⟨_, c' - n, r.drop n, out ++ r.take m4 ++ [(n : Int) - 4], by rw [hln.out], by rw [hln.out]; omega, by omega, by rw [hln.out]; omega, ?_, AD _ (Lib.hid (by first | rfl | (simp; done) | (simp [*]; done))), hcl, Lib.hid ?_, HB4, by omega⟩, ?_⟩
            · rw [List.length_append, List.length_append, htl.out, hln.out, List.length_singleton]; omega
            · rw [List.length_append, List.length_append, htl.out, List.length_singleton, List.map_append, List.map_append]
              exact HO4.out
            · show r.length - n < r.length
              omega
          · have hcl := Lib.hid (pack_close0 h0 hen.out Hm6.out HP.out hn4)
            go_wp2_with ((with_reducible refine gate_builtin (b := .append) (xs := #[.tmp 25, .tmp 29]) rfl ?_); refine wpList_appRowAt rfl (.tmp 25) (.tmp 29) 22 5 (.int .u8 0) 1 rfl Try.underlying22 info5 rfl w.heap.size w.heap.size w _ _ _ rfl HOq a _ _ rfl _ hlen HRq (Lib.hid (ints_one _ _)) (by omega) (by omega) hszq (Nat.le_refl _) HBq ?_; intro v1 w3 HO3 HB3 HBW3 hsz3)
            refine ⟨⟨_, c' - n, r.drop n, out ++ r.take m4, by rw [hln.out], by rw [hln.out]; omega, by omega, by rw [hln.out]; omega, ?_, AD _ (Lib.hid (by first | rfl | (simp; done) | (simp [*]; done))), hcl, Lib.hid ?_, HB3, by omega⟩, ?_⟩
            · rw [List.length_append, htl.out, hln.out]; omega
            · rw [List.length_append, htl.out, List.map_append]
              exact HO3.out
            · show r.length - n < r.length
              omega
    · have hr0 : r = [] := List.eq_nil_of_length_eq_zero (by omega)
      subst hr0
      obtain ⟨A2, cv, hv, _⟩ := own_slice HO.out
      subst hv
      go_wp2
      go_ret
      have hp := HP.out
      rw [pack_nil, List.append_nil] at hp
      rw [← hp]
      exact ⟨A2, cv, rfl, HO, HB, hsz⟩
end Go.Proofs.Ytcpcnhdjjfehcaa
