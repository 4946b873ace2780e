/- The contracts of 'spoilt' (runs) and 'names' (runs), over the seat's program. -/
import Derived.Test.YtcpcnhdjjfehcaaRe
import Derived.Test.YtcpcnhdjjfehcaaK3
namespace Go.Proofs.Ytcpcnhdjjfehcaa
open Go.RowKit Go.Proofs.YtcpcnhdjjfehcaaK
set_option linter.unusedVariables false
set_option linter.unusedSimpArgs false
theorem names29 (w : World) : Calls Try.prog 29 #[] w fun e w' => e = .returned (.bool true) ∧ w = w' := by
  go_enter Try.func29, Try.ntmps29
  go_wp2
  go_ret
  exact ⟨rfl, rfl⟩
def upped (l : List Int) (k : Nat) : List Int := (l.take k).map (fun x => (x + 1) % 256) ++ l.drop k
theorem upped_len (l : List Int) (k : Nat) : (upped l k).length = l.length := by simp [upped]; omega
theorem upped_at (l : List Int) (k : Nat) (h : k < l.length) : (upped l k).getD k 0 = l.getD k 0 := by
  unfold upped
  rw [List.getD_eq_getElem?_getD, List.getElem?_append_right (by simp; omega)]
  simp [List.getD_eq_getElem?_getD]
  congr 2
  omega
theorem upped_set (l : List Int) (k : Nat) (h : k < l.length) {x : Int} (hx : l.getD k 0 = x) : ((upped l k).map (Value.int .u8)).set k (.int .u8 ((x + 1) % 256)) = (upped l (k + 1)).map (Value.int .u8) := by
  have hx' : l[k] = x := by rw [← hx, List.getD_eq_getElem?_getD, List.getElem?_eq_getElem h]; rfl
  rw [← List.map_set]
  congr 1
  unfold upped
  have hlen : ((l.take k).map (fun x => (x + 1) % 256)).length = k := by simp; omega
  rw [List.set_append_right _ _ (by rw [hlen]; exact Nat.le_refl _), hlen, Nat.sub_self, List.take_succ_eq_append_getElem h, List.drop_eq_getElem_cons h, List.set_cons_zero, List.map_append, List.append_assoc, hx']
  rfl
set_option maxHeartbeats 1000000 in
set_option maxRecDepth 100000 in
theorem spoilt27 (l : List Int) (A B' : Option Addr) (c c' base : Nat) (w : World) (hl : l.length ≤ 1000000000) (hbs : Bytes l)
    (ho : Hid (w.ownsRow base 5 1 (.slice A l.length c) l.length (l.map (Value.int .u8)))) (hr : Hid (Rd w B' (l.map (Value.int .u8))))  :
    Calls Try.prog 27 #[.slice A l.length c, .slice B' l.length c'] w fun e w' => e = .returned (.bool true) ∧ Hid (w.grownBy w' (Value.slice A l.length c).ownBlock) := by
  have hs1 := Rd.string (P := Try.prog) (src := 22) (dst := 9) (c := c) Try.underlying22 Try.underlying5 Try.underlying9 (Rd.of_own ho.out)
  have hs2 := Rd.string (P := Try.prog) (src := 22) (dst := 9) (c := c') Try.underlying22 Try.underlying5 Try.underlying9 hr.out
  have HBy := Lib.hid hbs
  clear hbs
  rcases Nat.eq_zero_or_pos l.length with h0 | h0
  · obtain rfl : l = [] := List.eq_nil_of_length_eq_zero h0
    clear h0 ho hr hl HBy
    simp only [List.length_nil] at hs1 hs2 ⊢
    go_enter Try.func27, Try.ntmps27
    go_wp2
    refine wp_loop_rounds 1 ?_
    rw [rounds_succ]
    go_wp2
    go_ret
    exact ⟨rfl, Lib.hid (grown_refl _ _)⟩
  · obtain ⟨g, c1, hv, hg1, hc1, hg2⟩ := own_form ho.out h0
    injection hv with hA _ hc2
    subst hA hc2
    go_enter Try.func27, Try.ntmps27
    go_wp2
    clear hs1 hs2
    go_loopw [5] (fun i wr => ∃ k : Nat, k ≤ l.length ∧ i = .int .i64 k ∧ Hid (wr.ownsRow base 5 1 (.slice (some ⟨g, 0, none⟩) l.length c) l.length ((upped l k).map (Value.int .u8))) ∧ Hid (w.grownBy wr (some g))) (fun i _ => l.length - (intOf i).toNat)
    case atStart => exact ⟨0, Nat.zero_le _, rfl, by simpa [upped] using ho, Lib.hid (grown_refl _ _)⟩
    case round =>
      obtain ⟨k, hk, rfl, HO1, HB1⟩ := hrel
      by_cases hlt : k < l.length
      · obtain ⟨a', x, ha', hcx, hx⟩ := (Rd.of_own HO1.out).num k (by rw [upped_len]; exact hlt)
        injection ha' with ha'
        subst ha'
        rw [add_zero_off] at hcx
        have hx2 := Lib.hid ((upped_at l k hlt).symm.trans hx.out)
        obtain ⟨hx0, hx1⟩ := HBy.out.at_ hlt hx2.out
        have h3 := HO1.out.frozenAt k
        have HS := Lib.hid (HO1.out.stored k (Value.int .u8 ((x + 1) % 256)))
        have hst := Lib.hid (upped_set l k hlt hx2.out)
        go_wp2
        go_roundw
        case rel =>
          refine ⟨k + 1, by omega, by go_num, Lib.hid ?_, Lib.hid (grown_set HB1.out _ _)⟩
          rw [← hst.out]
          exact HS.out.1
        case measure => simp [intOf]; omega
      · obtain rfl : k = l.length := by omega
        go_wp2
        go_ret
        exact ⟨rfl, HB1⟩
end Go.Proofs.Ytcpcnhdjjfehcaa
