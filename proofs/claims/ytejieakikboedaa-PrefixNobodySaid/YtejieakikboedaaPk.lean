/- The walk of the statement PrefixNobody. -/
import Derived.Test.YtejieakikboedaaPj
namespace Go.Proofs.Ytejieakikboedaa
open Go.RowKit Go.Proofs.YtejieakikboedaaK
set_option linter.unusedVariables false
set_option linter.unusedSimpArgs false
attribute [local go_sem] code_set0 code_set68 code_nil code_len zero54   -- for this text's walks alone
theorem reader16 (w : World) (a : Addr) (c : Nat) (l : List Int) (b : Bool) (hl : l.length < 1000000000) (hr : Hid (Rd w (some a) (l.map (Value.int .u8)))) :
    Calls Try.prog 16 #[.slice (some a) l.length c, .bool b] w fun e w' => ∃ g v, e = .returned (.pointer (some ⟨g, 0, none⟩)) ∧ w.heap.size ≤ g ∧ Hid (w'.heap[g]? = some (.cells #[.bool true, .bool b, v, .int .i64 0] 77 (0, 0))) ∧ Hid (w'.ownsRow w.heap.size 5 1 v l.length (l.map (Value.int .u8))) ∧ Hid (Below w.heap.size w w') ∧ w.heap.size ≤ w'.heap.size := by
  go_enter Try.func16, Try.ntmps16
  go_wp2_with fail
  refine (clone30 w a c l hl hr).mono ?_
  rintro e w1 ⟨v, rfl, HO, HB, hsz⟩
  obtain ⟨A, c2, rfl, _⟩ := own_slice HO.out
  go_wp2
  go_ret
  exact ⟨w1.heap.size, _, rfl, hsz, Lib.hid (heap_alloc_new _ _), Lib.hid (HO.out.alloc _), Lib.hid (HB.out.alloc hsz _), by simp; omega⟩
theorem len19 (w : World) (g : Nat) (b : Bool) (v : Value) (n : Int) (h : Hid (w.heap[g]? = some (.cells #[.bool true, .bool b, v, .int .i64 n] 74 (0, 0)))) :
    Calls Try.prog 19 #[.pointer (some ⟨g, 0, none⟩)] w fun e w' => e = .returned (.int .i64 n) ∧ w' = w := by
  have h0 := cell_of_row w g 0 _ _ _ h.out
  have h3 := cell_of_row w g 3 _ _ _ h.out
  simp at h0 h3
  go_enter Try.func19, Try.ntmps19
  have hnone : Hid (Calls Try.prog 34 #[.pointer (some ⟨g, 0, none⟩)] w fun e w' => e = .returned (.bool false) ∧ w' = w) := Lib.hid (by
    go_enter Try.func34, Try.ntmps34
    go_wp2
    go_ret
    exact ⟨rfl, rfl⟩)
  go_wp2_with fail
  refine hnone.out.mono ?_
  rintro e w' ⟨rfl, rfl⟩
  go_wp2
  go_ret
  exact ⟨rfl, rfl⟩
theorem at20 (w : World) (g : Nat) (b : Bool) (v : Value) (n : Int) (h : Hid (w.heap[g]? = some (.cells #[.bool true, .bool b, v, .int .i64 n] 77 (0, 0)))) :
    Calls Try.prog 20 #[.pointer (some ⟨g, 0, none⟩)] w fun e w' => e = .returned (.int .i64 n) ∧ w' = w := by
  have h0 := cell_of_row w g 0 _ _ _ h.out
  have h3 := cell_of_row w g 3 _ _ _ h.out
  simp at h0 h3
  go_enter Try.func20, Try.ntmps20
  have hnone : Hid (Calls Try.prog 35 #[.pointer (some ⟨g, 0, none⟩)] w fun e w' => e = .returned (.bool false) ∧ w' = w) := Lib.hid (by
    go_enter Try.func35, Try.ntmps35
    go_wp2
    go_ret
    exact ⟨rfl, rfl⟩)
  go_wp2_with fail
  refine hnone.out.mono ?_
  rintro e w' ⟨rfl, rfl⟩
  go_wp2
  go_ret
  exact ⟨rfl, rfl⟩
set_option maxHeartbeats 2000000 in
set_option maxRecDepth 100000 in
theorem nobody4 (s cs : Value) (w : World) : Calls Try.prog 4 #[s, cs] w fun e w' => e = .returned (.bool true) ∧ Below w.heap.size w w' := by
  go_enter Try.func4, Try.ntmps4
  go_wp2_with fail
  refine (new15 w true).mono ?_
  rintro e w1 ⟨cells, rfl, rfl, rfl⟩
  have hW1 := Lib.hid (heap_alloc_new w (.cells #[.bool true, .bool true, .slice none 0 0, .int .i64 0] 74))
  have HB1 := Lib.hid ((Below.refl w.heap.size w).alloc (Nat.le_refl _) (.cells #[.bool true, .bool true, .slice none 0 0, .int .i64 0] 74))
  have hs1 : w.heap.size < (w.alloc (.cells #[.bool true, .bool true, .slice none 0 0, .int .i64 0] 74)).heap.size := by simp
  generalize w.alloc (.cells #[.bool true, .bool true, .slice none 0 0, .int .i64 0] 74) = w1 at *
  have hrd : Hid (Rd (w1.alloc (.cells #[.int .u8 1, .int .u8 2] 5)) (some ⟨w1.heap.size, 0, none⟩) (([1, 2] : List Int).map (Value.int .u8))) := Lib.hid (by
    refine Rd.of_own (World.ownsRow_lit (base := 0) (size := 1) (e := 5) w1 #[.int .u8 1, .int .u8 2] 2 (Nat.zero_le _) (by decide) rfl))
  have HB2 := Lib.hid (HB1.out.alloc (by omega) (.cells #[.int .u8 1, .int .u8 2] 5))
  have HW2 := Lib.hid ((heap_alloc_old w1 (.cells #[.int .u8 1, .int .u8 2] 5) hs1).trans hW1.out)
  have hs2 : w.heap.size < (w1.alloc (.cells #[.int .u8 1, .int .u8 2] 5)).heap.size := by simp; omega
  go_wp2_with fail
  refine (reader16 (w1.alloc (.cells #[.int .u8 1, .int .u8 2] 5)) ⟨w1.heap.size, 0, none⟩ 2 [1, 2] true (by decide) hrd).mono ?_
  rintro e w3 ⟨gr, v, rfl, hgr, HR, HO, HB3, hsz3⟩
  have HB3' := Lib.hid (HB2.out.trans (HB3.out.mono (by omega)))
  have HW3 := Lib.hid ((HB3.out.block w.heap.size hs2).trans HW2.out)
  have hs3 : w.heap.size < w3.heap.size := by omega
  have hgr3 := lt_of_blk HR.out
  clear HB1 hW1 hrd HB2 HW2 HB3 HO
  have HC4 := Lib.hid (heap_alloc_new w3 (.cells (codeC (.slice none 0 0) (fun _ => 0) (fun _ => 0) (fun _ => 0) (.slice none 0 0) 0).toArray 54))
  have HB4 := Lib.hid (HB3'.out.alloc (by omega) (.cells (codeC (.slice none 0 0) (fun _ => 0) (fun _ => 0) (fun _ => 0) (.slice none 0 0) 0).toArray 54))
  have HB34 := Lib.hid ((Below.refl w3.heap.size w3).alloc (Nat.le_refl _) (.cells (codeC (.slice none 0 0) (fun _ => 0) (fun _ => 0) (fun _ => 0) (.slice none 0 0) 0).toArray 54))
  have hs4 : (w3.alloc (.cells (codeC (.slice none 0 0) (fun _ => 0) (fun _ => 0) (fun _ => 0) (.slice none 0 0) 0).toArray 54)).heap.size = w3.heap.size + 1 := by simp
  have hs4' := Lib.hid hs4
  have HB5 := Lib.hid (HB4.out.alloc (by omega) (.cells #[.pointer none, .pointer (some ⟨w3.heap.size, 0, none⟩)] 25))
  have HB45 := Lib.hid ((Below.refl (w3.heap.size + 1) (w3.alloc (.cells (codeC (.slice none 0 0) (fun _ => 0) (fun _ => 0) (fun _ => 0) (.slice none 0 0) 0).toArray 54))).alloc (by omega) (.cells #[.pointer none, .pointer (some ⟨w3.heap.size, 0, none⟩)] 25))
  have HB35 := Lib.hid (HB34.out.trans (HB45.out.mono (Nat.le_succ _)))
  have HP0 := World.cell?_alloc_new (w3.alloc (.cells (codeC (.slice none 0 0) (fun _ => 0) (fun _ => 0) (fun _ => 0) (.slice none 0 0) 0).toArray 54)) #[.pointer none, .pointer (some ⟨w3.heap.size, 0, none⟩)] 25 0
  have HP1 := World.cell?_alloc_new (w3.alloc (.cells (codeC (.slice none 0 0) (fun _ => 0) (fun _ => 0) (fun _ => 0) (.slice none 0 0) 0).toArray 54)) #[.pointer none, .pointer (some ⟨w3.heap.size, 0, none⟩)] 25 1
  rw [hs4] at HP0 HP1
  have HP0' := Lib.hid HP0
  have HP1' := Lib.hid HP1
  clear HP0 HP1 HB4 hs4
  go_wp2
  have HC5 := Lib.hid ((HB45.out.block w3.heap.size (Nat.lt_succ_self _)).trans HC4.out)
  have HW5 := Lib.hid ((HB35.out.block w.heap.size hs3).trans HW3.out)
  have HR5 := Lib.hid ((HB35.out.block gr hgr3).trans HR.out)
  clear HC4 HB34 HB45 HB35 HW3 HR HB3'
  generalize (w3.alloc (.cells (codeC (.slice none 0 0) (fun _ => 0) (fun _ => 0) (fun _ => 0) (.slice none 0 0) 0).toArray 54)).alloc (.cells #[.pointer none, .pointer (some ⟨w3.heap.size, 0, none⟩)] 25) = w5 at *
  have HN0 := Lib.hid (show NoneP w5 (.pointer none) from .inl rfl)
  have HN1 := Lib.hid (show NoneP w5 (.pointer (some ⟨w3.heap.size, 0, none⟩)) from .inr ⟨_, rfl, (blk_at HC5.out 0).trans (code_0 _ _ _ _ _ _)⟩)
  go_loopw [23] (fun iv wr => ∃ k : Nat, k ≤ 2 ∧ iv = .int .i64 k ∧ wr = w5) (fun iv _ => 2 - (intOf iv).toNat)
  case atStart => exact ⟨0, by omega, rfl, rfl⟩
  case round =>
    obtain ⟨k, hk, rfl, rfl⟩ := hrel
    by_cases hk2 : k = 2
    · subst hk2
      go_wp2_with fail
      refine (len19 wr w.heap.size true _ 0 HW5).mono ?_
      rintro e w6 ⟨rfl, rfl⟩
      go_wp2_with fail
      refine (at20 w6 gr true _ 0 HR5).mono ?_
      rintro e w7 ⟨rfl, rfl⟩
      go_wp2
      go_ret
      exact ⟨rfl, HB5.out⟩
    · obtain ⟨q, hq, hcq⟩ : ∃ q, Hid (NoneP wr q) ∧ wr.cell? ⟨w3.heap.size + 1, k, none⟩ = some q := by
        rcases (show k = 0 ∨ k = 1 by omega) with rfl | rfl
        · exact ⟨_, HN0, HP0'.out⟩
        · exact ⟨_, HN1, HP1'.out⟩
      have hk1 : k < 2 := by omega
      go_wp2_with fail
      refine (word13u wr q s hq).mono ?_
      rintro e w6 ⟨rfl, rfl⟩
      go_wp2_with fail
      refine (get17u w6 q _ hq).mono ?_
      rintro e w7 ⟨rfl, rfl⟩
      go_wp2_with fail
      refine (cost10u w7 q cs hq).mono ?_
      rintro e w8 ⟨rfl, rfl⟩
      go_wp2_with fail
      refine (put18u w8 q _ s hq).mono ?_
      rintro e w9 ⟨rfl, rfl⟩
      go_wp2_with fail
      refine (sym12u w9 q hq).mono ?_
      rintro e w10 ⟨rfl, rfl⟩
      go_wp2
      exact ⟨⟨k + 1, by omega, by go_num, trivial⟩, by simp [intOf]; omega⟩
end Go.Proofs.Ytejieakikboedaa
