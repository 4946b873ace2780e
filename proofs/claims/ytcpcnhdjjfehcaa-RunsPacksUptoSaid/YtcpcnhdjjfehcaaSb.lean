/- Contracts of Order and Fixed of the reference, and of the statement's 'same', over the seat's program. -/
import Derived.Test.YtcpcnhdjjfehcaaProg
import Derived.Test.YtcpcnhdjjfehcaaK
namespace Go.Proofs.Ytcpcnhdjjfehcaa
open Go.RowKit Go.Proofs.YtcpcnhdjjfehcaaK
set_option linter.unusedVariables false
set_option linter.unusedSimpArgs false
/-- A slice of ints of the call's own is handed back; all else stands. -/
def Made (B : Nat) (w0 w : World) (l : List Int) (e : Ending) (w' : World) : Prop := ∃ v, e = .returned v ∧ w'.ownsRow w.heap.size 3 1 v l.length (l.map (Value.int .i64)) ∧ Below B w0 w' ∧ w.heap.size ≤ w'.heap.size
def ordL : List Int := [16, 17, 18, 0, 8, 7, 9, 6, 10, 5, 11, 4, 12, 3, 13, 2, 14, 1, 15]
set_option maxHeartbeats 400000 in
theorem order19 (B : Nat) (w0 w : World) (hB : B ≤ w.heap.size) (hb : Below B w0 w) : Calls Try.prog 19 #[] w (Made B w0 w ordL) := by
  go_enter Try.func19, Try.ntmps19
  go_wp2
  go_ret
  refine ⟨_, rfl, ?_, hb.alloc hB _, by simp⟩
  exact World.ownsRow_lit w _ 19 (Nat.le_refl _) (by decide) rfl
set_option maxHeartbeats 400000 in
theorem order20 (B : Nat) (w0 w : World) (hB : B ≤ w.heap.size) (hb : Below B w0 w) : Calls Try.prog 20 #[] w (Made B w0 w ordL) := by
  go_enter Try.func20, Try.ntmps20
  go_wp2
  go_ret
  refine ⟨_, rfl, ?_, hb.alloc hB _, by simp⟩
  exact World.ownsRow_lit w _ 19 (Nat.le_refl _) (by decide) rfl
theorem rep_set (l : List Int) (k : Nat) (h : k < l.length) : (List.replicate k (Value.int .i64 (-1)) ++ (l.drop k).map (Value.int .i64)).set k (Value.int .i64 (-1)) = List.replicate (k + 1) (Value.int .i64 (-1)) ++ (l.drop (k + 1)).map (Value.int .i64) := by
  rw [List.set_append_right _ _ (by simp)]
  rw [List.drop_eq_getElem_cons h]
  rw [List.length_replicate, Nat.sub_self, List.map_cons, List.set_cons_zero, List.replicate_succ', List.append_assoc, List.singleton_append]
theorem rep_at (l : List Int) (k : Nat) (h : k < l.length) : (List.replicate k (Value.int .i64 (-1)) ++ (l.drop k).map (Value.int .i64))[k]? = some (.int .i64 (l.getD k 0)) := by
  rw [List.getElem?_append_right (by simp)]
  simp [List.getD_eq_getElem?_getD, List.getElem?_eq_getElem h]
set_option maxHeartbeats 800000 in
theorem same16 (l : List Int) (A B' : Option Addr) (c c' B base : Nat) (w0 w : World) (hm : l.length ≤ 1000) (ho : w.ownsRow base 3 1 (.slice A l.length c) l.length (l.map (Value.int .i64)))
   (hr : Rd w B' (l.map (Value.int .i64))) (hd : ∀ a b, A = some a → B' = some b → a.block ≠ b.block) (hB : B ≤ w.heap.size) (hBb : B ≤ base) (hb : Below B w0 w) :
    Calls Try.prog 16 #[.slice A l.length c, .slice B' l.length c'] w fun e w' => e = .returned (.bool true) ∧ Below B w0 w' ∧ w.heap.size ≤ w'.heap.size := by
  rcases Nat.eq_zero_or_pos l.length with h0 | h0
  · obtain rfl : l = [] := List.eq_nil_of_length_eq_zero h0
    clear hr ho hm h0 hd
    simp only [List.length_nil]
    go_enter Try.func16, Try.ntmps16
    go_wp2
    refine wp_loop_rounds 1 ?_
    rw [rounds_succ]
    go_wp2
    go_ret
    exact ⟨rfl, hb, Nat.le_refl _⟩
  · obtain ⟨g, c1, hv, hg1, hc1, hg2⟩ := own_form ho h0
    injection hv with hA _ hc2
    subst hA hc2
    obtain ⟨b, hb', _⟩ := hr.ints 0 h0
    subst hb'
    have hne : b.block ≠ g := fun e => hd _ _ rfl rfl e.symm
    have HO := Lib.hid ho
    have HR := Lib.hid hr
    have HB := Lib.hid hb
    clear ho hr hd hb
    go_enter Try.func16, Try.ntmps16
    go_wp2
    go_loopw [5] (fun i wr => ∃ k : Nat, k ≤ l.length ∧ i = .int .i64 k ∧ Hid (wr.ownsRow base 3 1 (.slice (some ⟨g, 0, none⟩) l.length c) l.length (List.replicate k (Value.int .i64 (-1)) ++ (l.drop k).map (Value.int .i64))) ∧ Hid (Rd wr (some b) (l.map (Value.int .i64))) ∧ Hid (Below B w0 wr) ∧ w.heap.size ≤ wr.heap.size) (fun i _ => l.length - (intOf i).toNat)
    case atStart => exact ⟨0, Nat.zero_le _, rfl, by simpa using HO, HR, HB, Nat.le_refl _⟩
    case round =>
      obtain ⟨k, hk, rfl, HO1, HR1, HB1, hsz⟩ := hrel
      by_cases hlt : k < l.length
      · have h1 := rep_at l k hlt
        have h2 := (HO1.out.cellAt k (by omega)).trans h1
        have h3 := HO1.out.frozenAt k
        obtain ⟨b', hb', h4⟩ := HR1.out.ints k hlt
        injection hb' with hb'
        subst hb'
        have HS := Lib.hid (HO1.out.stored k (Value.int .i64 (-1)))
        clear h1
        go_wp2
        go_region
        all_goals
          go_wp2
          go_roundw
          case rel =>
            refine ⟨k + 1, by omega, by go_num, Lib.hid ?_, Lib.hid (HR1.out.set _ _ hne).drew, Lib.hid (below_drew (HB1.out.setCell (by simp; omega) _)), by simpa using hsz⟩
            have := HS.out
            rw [rep_set l k hlt] at this
            exact this.1
          case measure => simp [intOf]; omega
      · have : k = l.length := by omega
        subst this
        go_wp2
        go_ret
        exact ⟨rfl, HB1.out, hsz⟩
end Go.Proofs.Ytcpcnhdjjfehcaa
