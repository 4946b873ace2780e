/- The contract of runs.Unpack, over the seat's program. -/
import Derived.Test.YtcpcnhdjjfehcaaRa
import Derived.Test.YtcpcnhdjjfehcaaRs
namespace Go.Proofs.Ytcpcnhdjjfehcaa
open Go.RowKit Go.Proofs.YtcpcnhdjjfehcaaK
set_option linter.unusedVariables false
set_option linter.unusedSimpArgs false
/-- A list of bytes of the call's own and a number are handed back. -/
def GaveBN (w : World) (r : List Int × Int) (e : Ending) (w' : World) : Prop := ∃ A c, e = .returned (.tuple #[.slice A r.1.length c, .int .i64 r.2]) ∧ Hid (w'.ownsRow w.heap.size 5 1 (.slice A r.1.length c) r.1.length (r.1.map (Value.int .u8))) ∧ Hid (Below w.heap.size w w') ∧ w.heap.size ≤ w'.heap.size
set_option maxHeartbeats 1000000 in
set_option maxRecDepth 100000 in
theorem unpack24 (A : Option Addr) (c : Nat) (l : List Int) (most : Int) (w : World) (hl : l.length ≤ 2000000) (hc : l.length ≤ c) (hcm : c ≤ 9223372036854775807) (hm0 : -9223372036854775808 ≤ most) (hm1 : most ≤ 9223372036854775807)
    (hb : Bytes l) (hr : Rd w A (l.map (Value.int .u8))) : Calls Try.prog 24 #[.slice A l.length c, .int .i64 most] w (GaveBN w (upAll most l)) := by
  by_cases hneg : most < 0
  · have e : upAll most l = ([], 2) := by unfold upAll; rw [if_pos hneg]
    rw [e]
    go_enter Try.func24, Try.ntmps24
    go_wp2
    go_step3
    go_wp2
    try rw [Exit.noGoto_ret]
    go_ret2
    exact ⟨none, 0, rfl, Lib.hid (nil_own _ _ _), Lib.hid (Below.refl _ _), Nat.le_refl _⟩
  have h0 : 0 ≤ most := by omega
  have HR := Lib.hid hr
  have HBy := Lib.hid hb
  clear hneg hm0 hr hb
  go_enter Try.func24, Try.ntmps24
  go_wp2
  go_step3
  go_wp2
  go_step3
  go_wp2
  go_loopw [6, 7, 14] (fun v lk i wr => ∃ (k like : Nat) (out : List Int), k ≤ l.length ∧ like ≤ 4 ∧ out.length ≤ 255 * k ∧ (like = 4 → 1 ≤ k) ∧ (1 ≤ like → 1 ≤ k) ∧ i = .int .i64 k ∧ lk = .int .i64 like ∧ Hid (upStep most l k = some (out, like)) ∧ Hid (wr.ownsRow w.heap.size 5 1 v out.length (out.map (Value.int .u8))) ∧ Hid (Below w.heap.size w wr) ∧ w.heap.size ≤ wr.heap.size) (fun _ _ i _ => l.length - (intOf i).toNat)
  case atStart => exact ⟨0, 0, [], by omega, by omega, by simp, by omega, by omega, rfl, rfl, Lib.hid rfl, Lib.hid (nil_own _ _ _), Lib.hid (Below.refl _ _), Nat.le_refl _⟩
  case round =>
    obtain ⟨k, like, out, hk, hlk, hout, hk4, hk1, rfl, rfl, HU, HO, HB, hsz⟩ := hrel
    by_cases hlt : k < l.length
    · have HRw := Lib.hid (HR.out.below HB.out)
      obtain ⟨a, x, rfl, hcx, hx⟩ := HRw.out.num k hlt
      obtain ⟨hx0, hx1⟩ := HBy.out.at_ hlt hx.out
      obtain ⟨A', cv, hv, _⟩ := own_slice HO.out
      subst hv
      have HS := Lib.hid (up_succ most l k HU.out hx.out)
      by_cases h4 : like = 4
      · subst h4
        by_cases hbig : most - out.length < x
        · have hfin : Hid (upAll most l = ([], 3)) := Lib.hid (up_out h0 (show k + 1 ≤ l.length from hlt) (by rw [HS.out, if_pos rfl, if_pos hbig]))
          go_wp2
          try rw [Exit.noGoto_ret]
          go_ret2
          rw [hfin.out]
          exact ⟨none, 0, rfl, Lib.hid (nil_own _ _ _), HB, hsz⟩
        · have h1k : 1 ≤ k := hk4 rfl
          obtain ⟨a', y, ha', hcy, hy⟩ := HRw.out.num (k - 1) (by omega)
          injection ha' with ha'
          subst ha'
          clear hk4 hk1
          have hgo := Lib.hid (show upStep most l (k + 1) = some (out ++ List.replicate x.toNat y, 0) by rw [HS.out, if_pos rfl, if_neg (by omega), hy.out])
          clear HS
          go_wp2_with fail
          rw [show k - (k - 1) = 1 by omega]
          refine (repeat51i (a.add (k - 1)) 1 y x wr hx0 hx1 hcy).mono ?_
          rintro e w1 ⟨ad, c1, rfl, HRr, HBr, hsr⟩
          have HO1 := Lib.hid (own_below HO.out HBr.out)
          have HB1 := Lib.hid (HB.out.trans (HBr.out.mono hsz))
          have hlen := Lib.hid (show ((List.replicate x.toNat y).map (Value.int .u8)).length = x.toNat by simp)
          have hxn : x.toNat ≤ 255 := by omega
          rw [List.length_replicate]
          clear hcx hcy
          go_wp2_with (at_builtin; refine wpList_appRowAt rfl (.tmp 28) (.tmp 37) 22 5 (.int .u8 0) 1 rfl Try.underlying22 info5 rfl w.heap.size w.heap.size w _ _ _ rfl HO1 ad _ _ rfl _ hlen HRr (Lib.hid (ints_one _ _)) (by omega) (by omega) (by omega) (Nat.le_refl _) HB1 ?_; intro v' w3 HO3 HB3 HBW3 hsz3)
          go_roundw
          case rel =>
            refine ⟨k + 1, 0, out ++ List.replicate x.toNat y, by omega, by omega, ?_, by omega, by omega, by go_num, rfl, hgo, Lib.hid ?_, HB3, by omega⟩
            · rw [List.length_append, List.length_replicate]; omega
            · rw [List.length_append, List.length_replicate, List.map_append]
              exact HO3.out
          case measure => simp [intOf]; omega
      · by_cases hful : (out.length : Int) = most
        · have hfin : Hid (upAll most l = ([], 3)) := Lib.hid (up_out h0 (show k + 1 ≤ l.length from hlt) (by rw [HS.out, if_neg h4, if_pos hful]))
          go_wp2
          try rw [Exit.noGoto_ret]
          go_ret2
          rw [hfin.out]
          exact ⟨none, 0, rfl, Lib.hid (nil_own _ _ _), HB, hsz⟩
        · have hone := Lib.hid (show (Value.int .u8 x).oneCell' = true from rfl)
          by_cases hl1 : 0 < like
          · have h1k : 1 ≤ k := hk1 hl1
            obtain ⟨a', y, ha', hcy, hy⟩ := HRw.out.num (k - 1) (by omega)
            injection ha' with ha'
            subst ha'
            clear hk4 hk1
            by_cases hxy : x = y
            · have hgo := Lib.hid (show upStep most l (k + 1) = some (out ++ [x], like + 1) by rw [HS.out, if_neg h4, if_neg hful, if_pos ⟨hl1, hxy.trans hy.out.symm⟩])
              have hq := Lib.hid hxy
              subst hxy
              clear HS hy
              go_wp2_with (at_builtin; refine wpList_app1 rfl (.tmp 56) (.tmp 58) 22 5 (.int .u8 0) 1 rfl Try.underlying22 info5 rfl w.heap.size w.heap.size w _ _ _ rfl HO (.int .u8 x) rfl rfl (by omega) (by omega) hsz (Nat.le_refl _) HB ?_; intro v' w3 HO3 HB3 hsz3)
              go_roundw
              case rel =>
                refine ⟨k + 1, like + 1, out ++ [x], by omega, by omega, ?_, by omega, by omega, by go_num, by go_num, hgo, Lib.hid ?_, HB3, by omega⟩
                · rw [List.length_append, List.length_singleton]; omega
                · rw [List.length_append, List.length_singleton, List.map_append]
                  exact HO3.out
              case measure => simp [intOf]; omega
            · have hgo := Lib.hid (show upStep most l (k + 1) = some (out ++ [x], 1) by rw [HS.out, if_neg h4, if_neg hful, if_neg (by rw [hy.out]; exact fun h => hxy h.2)])
              clear HS hy
              go_wp2_with (at_builtin; refine wpList_app1 rfl (.tmp 56) (.tmp 58) 22 5 (.int .u8 0) 1 rfl Try.underlying22 info5 rfl w.heap.size w.heap.size w _ _ _ rfl HO (.int .u8 x) rfl rfl (by omega) (by omega) hsz (Nat.le_refl _) HB ?_; intro v' w3 HO3 HB3 hsz3)
              go_roundw
              case rel =>
                refine ⟨k + 1, 1, out ++ [x], by omega, by omega, ?_, by omega, by omega, by go_num, rfl, hgo, Lib.hid ?_, HB3, by omega⟩
                · rw [List.length_append, List.length_singleton]; omega
                · rw [List.length_append, List.length_singleton, List.map_append]
                  exact HO3.out
              case measure => simp [intOf]; omega
          · have hgo := Lib.hid (show upStep most l (k + 1) = some (out ++ [x], 1) by rw [HS.out, if_neg h4, if_neg hful, if_neg (fun h => hl1 h.1)])
            clear HS hk4 hk1
            go_wp2_with (at_builtin; refine wpList_app1 rfl (.tmp 56) (.tmp 58) 22 5 (.int .u8 0) 1 rfl Try.underlying22 info5 rfl w.heap.size w.heap.size w _ _ _ rfl HO (.int .u8 x) rfl rfl (by omega) (by omega) hsz (Nat.le_refl _) HB ?_; intro v' w3 HO3 HB3 hsz3)
            go_roundw
            case rel =>
              refine ⟨k + 1, 1, out ++ [x], by omega, by omega, ?_, by omega, by omega, by go_num, rfl, hgo, Lib.hid ?_, HB3, by omega⟩
              · rw [List.length_append, List.length_singleton]; omega
              · rw [List.length_append, List.length_singleton, List.map_append]
                exact HO3.out
            case measure => simp [intOf]; omega
    · obtain rfl : k = l.length := by omega
      have hfin := Lib.hid (up_end h0 HU.out)
      by_cases h4 : like = 4
      · have hf2 := Lib.hid (hfin.out.trans (if_pos h4))
        clear hfin
        go_wp2
        try rw [Exit.noGoto_ret]
        go_ret2
        rw [hf2.out]
        exact ⟨none, 0, rfl, Lib.hid (nil_own _ _ _), HB, hsz⟩
      · have hf2 := Lib.hid (hfin.out.trans (if_neg h4))
        clear hfin
        obtain ⟨A', cv, hv, _⟩ := own_slice HO.out
        subst hv
        go_wp2
        try rw [Exit.noGoto_ret]
        go_ret2
        rw [hf2.out]
        exact ⟨A', cv, rfl, HO, HB, hsz⟩
end Go.Proofs.Ytcpcnhdjjfehcaa
