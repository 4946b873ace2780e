/- The contract of the reference's New (prefix), over the seat's program. -/
import Derived.Test.YtejieakikboedaaPa
import Derived.Test.YtejieakikboedaaK4
namespace Go.Proofs.Ytejieakikboedaa
open Go.RowKit Go.Proofs.YtejieakikboedaaK
set_option linter.unusedVariables false
set_option linter.unusedSimpArgs false
theorem info43 : (Try.prog.info? 43).map (fun i => (i.zero, i.size, i.bytes)) = some (some (.agg #[.int .u32 0, .int .i64 0]), 2, 16) := by kernel_rfl
theorem info72 : (Try.prog.info? 72).map (fun i => (i.zero, i.size, i.bytes)) = some (some (.agg #[.int .u32 0, .int .i64 0]), 2, 16) := by kernel_rfl
/-- The words that a list of lengths makes. -/
def wordsOf (ls : List Int) (most : Int) : List (Int × Int) := (lev ls most.toNat).2.1
theorem inn_len (ls : List Int) (l : Int) (k : Nat) (st : Int × List (Int × Int) × List Int) : (inn ls l k st).2.1.length = st.2.1.length := by
  induction k with
  | zero => rfl
  | succ k ih => simp only [inn]; split <;> simp [ih]
theorem lev_len (ls : List Int) (l : Nat) : (lev ls l).2.1.length = ls.length := by
  induction l with
  | zero => simp [lev]
  | succ l ih => simp only [lev]; rw [inn_len]; exact ih
/-- What the reference's New hands back. -/
def RefNew (w : World) (ls : List Int) (most : Int) (loose : Bool) (e : Ending) (w' : World) : Prop :=
  (newErr ls most loose ≠ 0 ∧ e = .returned (.tuple #[.slice none 0 0, .int .i64 (newErr ls most loose)]) ∨
    newErr ls most loose = 0 ∧ ∃ g, e = .returned (.tuple #[.slice (some ⟨g, 0, none⟩) ls.length ls.length, .int .i64 0]) ∧ w.heap.size ≤ g ∧ Hid (WBlk 43 w' g (wordsOf ls most))) ∧ Hid (Below w.heap.size w w') ∧ w.heap.size ≤ w'.heap.size
set_option maxHeartbeats 1000000 in
set_option maxRecDepth 100000 in
theorem refnew_bad (A : Option Addr) (c : Nat) (l : List Int) (most : Int) (loose : Bool) (w : World) (hl : l.length ≤ 9223372036854775807) (hbad : most < 1 ∨ 20 < most ∨ l.length < 1 ∨ 65536 < l.length) :
    Calls Try.prog 8 #[.slice A l.length c, .int .i64 most, .bool loose] w (RefNew w l most loose) := by
  have he : Hid (newErr l most loose = 2) := Lib.hid (by
    unfold newErr badArg
    rw [if_pos]
    rcases hbad with h | h | h | h <;> simp <;> omega)
  by_cases h1 : most < 1
  · clear hbad
    go_enter Try.func8, Try.ntmps8
    go_wp2
    go_ret2
    unfold RefNew
    rw [he.out]
    exact ⟨.inl ⟨by decide, rfl⟩, Lib.hid (Below.refl _ _), Nat.le_refl _⟩
  · by_cases h2 : 20 < most
    · clear hbad
      go_enter Try.func8, Try.ntmps8
      go_wp2
      go_ret2
      unfold RefNew
      rw [he.out]
      exact ⟨.inl ⟨by decide, rfl⟩, Lib.hid (Below.refl _ _), Nat.le_refl _⟩
    · by_cases h3 : l.length < 1
      · clear hbad
        go_enter Try.func8, Try.ntmps8
        go_wp2
        go_ret2
        unfold RefNew
        rw [he.out]
        exact ⟨.inl ⟨by decide, rfl⟩, Lib.hid (Below.refl _ _), Nat.le_refl _⟩
      · have h4 : 65536 < l.length := by omega
        clear hbad
        go_enter Try.func8, Try.ntmps8
        go_wp2
        go_ret2
        unfold RefNew
        rw [he.out]
        exact ⟨.inl ⟨by decide, rfl⟩, Lib.hid (Below.refl _ _), Nat.le_refl _⟩
set_option maxHeartbeats 2000000 in
set_option maxRecDepth 100000 in
theorem refnew_ok (A : Option Addr) (c : Nat) (l : List Int) (most : Int) (loose : Bool) (w : World) (hm0 : 1 ≤ most) (hm1 : most ≤ 20) (hl0 : 1 ≤ l.length) (hl : l.length ≤ 65536) (hr : Hid (Rd w A (l.map (Value.int .i64)))) :
    Calls Try.prog 8 #[.slice A l.length c, .int .i64 most, .bool loose] w (RefNew w l most loose) := by
  have hba : Hid (badArg l most = l.any (oddB most)) := Lib.hid (by
    unfold badArg
    rw [show decide (most < 1) = false by simp; omega, show decide (20 < most) = false by simp; omega, show decide ((l.length : Int) < 1) = false by simp; omega, show decide (65536 < (l.length : Int)) = false by simp; omega]
    rfl)
  go_enter Try.func8, Try.ntmps8
  go_wp2
  go_loop [8, 9, 10, 11] (fun s n o i => ∃ k : Nat, k ≤ l.length ∧ i = .int .i64 k ∧ s = .int .i64 (sumOf (l.take k)) ∧ n = .int .i64 (cntOf (l.take k)) ∧ o = .int .i64 (oneOf (l.take k)) ∧ Hid ((l.take k).any (oddB most) = false)) (fun _ _ _ i => l.length - (intOf i).toNat)
  case atStart => exact ⟨0, Nat.zero_le _, rfl, rfl, rfl, rfl, Lib.hid (by simp)⟩
  case round =>
    obtain ⟨k, hk, rfl, rfl, rfl, rfl, HN⟩ := hrel
    have hbd := sum_bd l k hk
    by_cases hlt : k < l.length
    · obtain ⟨a, x, rfl, hcx, hx⟩ := hr.out.num k hlt
      have hxe : Hid (l[k] = x) := Lib.hid (by
        have := hx.out
        rwa [List.getD_eq_getElem?_getD, List.getElem?_eq_getElem hlt] at this)
      have hs1 := Lib.hid (sumOf_snoc l k hlt)
      have hs2 := Lib.hid (cntOf_snoc l k hlt)
      have hs3 := Lib.hid (oneOf_snoc l k hlt)
      have hsn := Lib.hid (show (l.take (k + 1)).any (oddB most) = oddB most x by rw [List.take_succ_eq_append_getElem hlt, List.any_append, HN.out, hxe.out]; simp)
      have hmem : Hid (oddB most x = true → l.any (oddB most) = true) := Lib.hid (fun h => List.any_eq_true.2 ⟨x, by rw [← hxe.out]; exact List.getElem_mem hlt, h⟩)
      generalize sumOf (l.take k) = s at *
      generalize cntOf (l.take k) = n at *
      generalize oneOf (l.take k) = o at *
      by_cases hx0 : x < 0
      · have he : Hid (newErr l most loose = 2) := Lib.hid (by unfold newErr; rw [hba.out, hmem.out (by simp [oddB, hx0])]; rfl)
        go_wp2
        go_ret2
        unfold RefNew
        rw [he.out]
        exact ⟨.inl ⟨by decide, rfl⟩, Lib.hid (Below.refl _ _), Nat.le_refl _⟩
      by_cases hx1 : most < x
      · have he : Hid (newErr l most loose = 2) := Lib.hid (by unfold newErr; rw [hba.out, hmem.out (by simp [oddB, hx1])]; rfl)
        go_wp2
        go_ret2
        unfold RefNew
        rw [he.out]
        exact ⟨.inl ⟨by decide, rfl⟩, Lib.hid (Below.refl _ _), Nat.le_refl _⟩
      have hno := Lib.hid (hsn.out.trans (show oddB most x = false by simp [oddB, hx0, hx1]))
      clear hsn hmem
      by_cases hp : 0 < x
      · have hpw := pow_le_20 x hp
        by_cases hone : x = 1
        · have hxx := Lib.hid hone
          subst hone
          go_wp2
          refine ⟨⟨k + 1, by omega, by go_num, ?_, ?_, ?_, hno⟩, by simp [intOf]; omega⟩
          · rw [hs1.out, hx.out, if_pos hp]; rfl
          · rw [hs2.out, hx.out, if_pos hp]
          · rw [hs3.out, hx.out, if_pos rfl]
        · go_wp2
          refine ⟨⟨k + 1, by omega, by go_num, ?_, ?_, ?_, hno⟩, by simp [intOf]; omega⟩
          · rw [hs1.out, hx.out, if_pos hp]
          · rw [hs2.out, hx.out, if_pos hp]
          · rw [hs3.out, hx.out, if_neg hone, Int.add_zero]
      · have hone : ¬ x = 1 := by omega
        go_wp2
        refine ⟨⟨k + 1, by omega, by go_num, ?_, ?_, ?_, hno⟩, by simp [intOf]; omega⟩
        · rw [hs1.out, hx.out, if_neg hp, Int.add_zero]
        · rw [hs2.out, hx.out, if_neg hp, Int.add_zero]
        · rw [hs3.out, hx.out, if_neg hone, Int.add_zero]
    · obtain rfl : k = l.length := by omega
      rw [List.take_length] at *
      have hbds : ∀ x ∈ l, 0 ≤ x ∧ x ≤ 20 := fun x hx => by
        have h1 := List.any_eq_false.1 HN.out x hx
        simp [oddB] at h1
        omega
      have hone := Lib.hid (one_sum l hbds)
      have hno := HN
      have hF0 := Lib.hid (show fullB l loose = (decide (sumOf l = 1048576) || (loose && (decide (cntOf l = 0) || (decide (cntOf l = 1) && decide (sumOf l = 524288))))) from rfl)
      have HBr := Lib.hid (Below.refl w.heap.size w)
      clear HN hbds hk
      generalize sumOf l = s at *
      generalize cntOf l = n at *
      generalize oneOf l = o at *
      by_cases h1 : s = 1048576
      · have hF : fullB l loose = true := by rw [hF0.out]; simp [h1]
        subst h1
        have he : Hid (newErr l most loose = 0) := Lib.hid (by unfold newErr; rw [hba.out, hno.out, hF]; rfl)
        clear hF hF0
        go_wp2_with (at_make; refine wpList_make2 rfl (.tmp 93) (.tmp 93) 29 43 16 rfl Try.underlying29 info43 .i64 .i64 _ _ l.length rfl rfl rfl rfl (by omega) (by omega) w.heap.size w (Nat.le_refl _) HBr ?_; intro w1 HW1 HB1 hsz1 HBw1)
        go_loopw [13, 14] (fun nx lv wr => ∃ q : Nat, (q : Int) ≤ most ∧ lv = .int .i64 ((q : Int) + 1) ∧ nx = .int .u32 (lev l q).1 ∧ Hid (WBlk 43 wr w.heap.size (lev l q).2.1) ∧ Hid (Below w.heap.size w wr) ∧ w.heap.size < wr.heap.size) (fun _ lv _ => (most + 1 - intOf lv).toNat)
        case atStart => exact ⟨0, by omega, rfl, rfl, HW1, HB1, hsz1⟩
        case round =>
          obtain ⟨q, hq, rfl, rfl, HW, HB, hsz⟩ := hrel
          by_cases hql : (q : Int) + 1 ≤ most
          · obtain ⟨wo, rfl⟩ : ∃ wo : World, wo = wr := ⟨_, rfl⟩
            go_wp2_with fail
            go_loopw [13, 15] (fun nx iv wi => ∃ k : Nat, k ≤ l.length ∧ iv = .int .i64 k ∧ nx = .int .u32 (inn l ((q : Int) + 1) k (((lev l q).1 * 2) % 4294967296, (lev l q).2.1, (lev l q).2.2)).1 ∧ Hid (WBlk 43 wi w.heap.size (inn l ((q : Int) + 1) k (((lev l q).1 * 2) % 4294967296, (lev l q).2.1, (lev l q).2.2)).2.1) ∧ Hid (Below w.heap.size w wi) ∧ w.heap.size < wi.heap.size) (fun _ iv _ => l.length - (intOf iv).toNat)
            case atStart => exact ⟨0, Nat.zero_le _, rfl, by first | rfl | (simp [inn]; done), HW, HB, hsz⟩
            case round =>
              obtain ⟨k, hk, rfl, rfl, HWi, HBi, hszi⟩ := hrel
              by_cases hlt : k < l.length
              · obtain ⟨a, x, ha, hcx, hx⟩ := (hr.out.below HBi.out).num k hlt
                subst ha
                have hwl := Lib.hid ((inn_len l ((q : Int) + 1) k (((lev l q).1 * 2) % 4294967296, (lev l q).2.1, (lev l q).2.2)).trans (lev_len l q))
                generalize hst : inn l ((q : Int) + 1) k (((lev l q).1 * 2) % 4294967296, (lev l q).2.1, (lev l q).2.2) = st at *
                have hsucc := Lib.hid (show inn l ((q : Int) + 1) (k + 1) (((lev l q).1 * 2) % 4294967296, (lev l q).2.1, (lev l q).2.2) = if l.getD k 0 = (q : Int) + 1 then ((st.1 + 1) % 4294967296, st.2.1.set k (st.1, (q : Int) + 1), st.2.2 ++ [(k : Int)]) else st by rw [← hst]; rfl)
                clear hst
                obtain ⟨nx, ws, so⟩ := st
                by_cases hx1 : x = (q : Int) + 1
                · have hxe : (x == (q : Int) + 1) = true := by simpa using hx1
                  have hs2 := Lib.hid (hsucc.out.trans (if_pos (hx.out.trans hx1)))
                  obtain ⟨hc1, hc2⟩ := HWi.out.at_ k (by rw [hwl.out]; exact hlt)
                  have hf1 := blk_frz HWi.out (k * 2)
                  have hf2 := blk_frz HWi.out (k * 2 + 1)
                  have HSet := Lib.hid (HWi.out.set k (by rw [hwl.out]; exact hlt) nx ((q : Int) + 1))
                  clear hsucc hx1
                  go_wp2
                  refine ⟨⟨k + 1, by omega, by go_num, by rw [hs2.out], Lib.hid ?_, Lib.hid ((HBi.out.setCell (Nat.le_refl _) _).setCell (Nat.le_refl _) _), by simpa using hszi⟩, by simp [intOf]; omega⟩
                  rw [hs2.out]
                  exact HSet.out
                · have hxe : (x == (q : Int) + 1) = false := by simpa using hx1
                  have hs2 := Lib.hid (hsucc.out.trans (if_neg (by rw [hx.out]; exact hx1)))
                  clear hsucc hx1
                  go_wp2
                  exact ⟨⟨k + 1, by omega, by go_num, by rw [hs2.out], by rw [hs2.out]; exact HWi, HBi, hszi⟩, by simp [intOf]; omega⟩
              · obtain rfl : k = l.length := by omega
                have hlev := Lib.hid (show lev l (q + 1) = _ from rfl)
                go_wp2
                exact ⟨⟨q + 1, by omega, by go_num, rfl, HWi, HBi, hszi⟩, by simp [intOf]; omega⟩
          · have hqe : most = (q : Int) := by omega
            have hmq := Lib.hid (show most.toNat = q by omega)
            clear hqe
            go_wp2
            go_ret2
            unfold RefNew
            rw [he.out]
            refine ⟨.inr ⟨rfl, w.heap.size, rfl, Nat.le_refl _, ?_⟩, HB, by omega⟩
            unfold wordsOf
            rw [hmq.out]
            exact HW
      · have e1 : (s != 1048576) = true := by simpa using h1
        cases loose with
        | false =>
          have he : Hid (newErr l most false = 13) := Lib.hid (by unfold newErr; rw [hba.out, hno.out, hF0.out]; simp [h1])
          go_wp2
          go_ret2
          unfold RefNew
          rw [he.out]
          exact ⟨.inl ⟨by decide, rfl⟩, Lib.hid (Below.refl _ _), Nat.le_refl _⟩
        | true =>
          by_cases h2 : n = 0
          · have hF : fullB l true = true := by rw [hF0.out]; simp [h2]
            subst h2
            have he : Hid (newErr l most true = 0) := Lib.hid (by unfold newErr; rw [hba.out, hno.out, hF]; rfl)
            clear hF hF0
            go_wp2_with (at_make; refine wpList_make2 rfl (.tmp 93) (.tmp 93) 29 43 16 rfl Try.underlying29 info43 .i64 .i64 _ _ l.length rfl rfl rfl rfl (by omega) (by omega) w.heap.size w (Nat.le_refl _) HBr ?_; intro w1 HW1 HB1 hsz1 HBw1)
            go_loopw [13, 14] (fun nx lv wr => ∃ q : Nat, (q : Int) ≤ most ∧ lv = .int .i64 ((q : Int) + 1) ∧ nx = .int .u32 (lev l q).1 ∧ Hid (WBlk 43 wr w.heap.size (lev l q).2.1) ∧ Hid (Below w.heap.size w wr) ∧ w.heap.size < wr.heap.size) (fun _ lv _ => (most + 1 - intOf lv).toNat)
            case atStart => exact ⟨0, by omega, rfl, rfl, HW1, HB1, hsz1⟩
            case round =>
              obtain ⟨q, hq, rfl, rfl, HW, HB, hsz⟩ := hrel
              by_cases hql : (q : Int) + 1 ≤ most
              · obtain ⟨wo, rfl⟩ : ∃ wo : World, wo = wr := ⟨_, rfl⟩
                go_wp2_with fail
                go_loopw [13, 15] (fun nx iv wi => ∃ k : Nat, k ≤ l.length ∧ iv = .int .i64 k ∧ nx = .int .u32 (inn l ((q : Int) + 1) k (((lev l q).1 * 2) % 4294967296, (lev l q).2.1, (lev l q).2.2)).1 ∧ Hid (WBlk 43 wi w.heap.size (inn l ((q : Int) + 1) k (((lev l q).1 * 2) % 4294967296, (lev l q).2.1, (lev l q).2.2)).2.1) ∧ Hid (Below w.heap.size w wi) ∧ w.heap.size < wi.heap.size) (fun _ iv _ => l.length - (intOf iv).toNat)
                case atStart => exact ⟨0, Nat.zero_le _, rfl, by first | rfl | (simp [inn]; done), HW, HB, hsz⟩
                case round =>
                  obtain ⟨k, hk, rfl, rfl, HWi, HBi, hszi⟩ := hrel
                  by_cases hlt : k < l.length
                  · obtain ⟨a, x, ha, hcx, hx⟩ := (hr.out.below HBi.out).num k hlt
                    subst ha
                    have hwl := Lib.hid ((inn_len l ((q : Int) + 1) k (((lev l q).1 * 2) % 4294967296, (lev l q).2.1, (lev l q).2.2)).trans (lev_len l q))
                    generalize hst : inn l ((q : Int) + 1) k (((lev l q).1 * 2) % 4294967296, (lev l q).2.1, (lev l q).2.2) = st at *
                    have hsucc := Lib.hid (show inn l ((q : Int) + 1) (k + 1) (((lev l q).1 * 2) % 4294967296, (lev l q).2.1, (lev l q).2.2) = if l.getD k 0 = (q : Int) + 1 then ((st.1 + 1) % 4294967296, st.2.1.set k (st.1, (q : Int) + 1), st.2.2 ++ [(k : Int)]) else st by rw [← hst]; rfl)
                    clear hst
                    obtain ⟨nx, ws, so⟩ := st
                    by_cases hx1 : x = (q : Int) + 1
                    · have hxe : (x == (q : Int) + 1) = true := by simpa using hx1
                      have hs2 := Lib.hid (hsucc.out.trans (if_pos (hx.out.trans hx1)))
                      obtain ⟨hc1, hc2⟩ := HWi.out.at_ k (by rw [hwl.out]; exact hlt)
                      have hf1 := blk_frz HWi.out (k * 2)
                      have hf2 := blk_frz HWi.out (k * 2 + 1)
                      have HSet := Lib.hid (HWi.out.set k (by rw [hwl.out]; exact hlt) nx ((q : Int) + 1))
                      clear hsucc hx1
                      go_wp2
                      refine ⟨⟨k + 1, by omega, by go_num, by rw [hs2.out], Lib.hid ?_, Lib.hid ((HBi.out.setCell (Nat.le_refl _) _).setCell (Nat.le_refl _) _), by simpa using hszi⟩, by simp [intOf]; omega⟩
                      rw [hs2.out]
                      exact HSet.out
                    · have hxe : (x == (q : Int) + 1) = false := by simpa using hx1
                      have hs2 := Lib.hid (hsucc.out.trans (if_neg (by rw [hx.out]; exact hx1)))
                      clear hsucc hx1
                      go_wp2
                      exact ⟨⟨k + 1, by omega, by go_num, by rw [hs2.out], by rw [hs2.out]; exact HWi, HBi, hszi⟩, by simp [intOf]; omega⟩
                  · obtain rfl : k = l.length := by omega
                    have hlev := Lib.hid (show lev l (q + 1) = _ from rfl)
                    go_wp2
                    exact ⟨⟨q + 1, by omega, by go_num, rfl, HWi, HBi, hszi⟩, by simp [intOf]; omega⟩
              · have hqe : most = (q : Int) := by omega
                have hmq := Lib.hid (show most.toNat = q by omega)
                clear hqe
                go_wp2
                go_ret2
                unfold RefNew
                rw [he.out]
                refine ⟨.inr ⟨rfl, w.heap.size, rfl, Nat.le_refl _, ?_⟩, HB, by omega⟩
                unfold wordsOf
                rw [hmq.out]
                exact HW
          · have e2 : (n == 0) = false := by simpa using h2
            by_cases h3 : n = 1
            · by_cases h4 : o = 1
              · have h5 : s = 524288 := by have := hone.out; omega
                have hF : fullB l true = true := by rw [hF0.out]; simp [h3, h5]
                subst h3
                subst h4
                clear h5
                have he : Hid (newErr l most true = 0) := Lib.hid (by unfold newErr; rw [hba.out, hno.out, hF]; rfl)
                clear hF hF0
                go_wp2_with (at_make; refine wpList_make2 rfl (.tmp 93) (.tmp 93) 29 43 16 rfl Try.underlying29 info43 .i64 .i64 _ _ l.length rfl rfl rfl rfl (by omega) (by omega) w.heap.size w (Nat.le_refl _) HBr ?_; intro w1 HW1 HB1 hsz1 HBw1)
                go_loopw [13, 14] (fun nx lv wr => ∃ q : Nat, (q : Int) ≤ most ∧ lv = .int .i64 ((q : Int) + 1) ∧ nx = .int .u32 (lev l q).1 ∧ Hid (WBlk 43 wr w.heap.size (lev l q).2.1) ∧ Hid (Below w.heap.size w wr) ∧ w.heap.size < wr.heap.size) (fun _ lv _ => (most + 1 - intOf lv).toNat)
                case atStart => exact ⟨0, by omega, rfl, rfl, HW1, HB1, hsz1⟩
                case round =>
                  obtain ⟨q, hq, rfl, rfl, HW, HB, hsz⟩ := hrel
                  by_cases hql : (q : Int) + 1 ≤ most
                  · obtain ⟨wo, rfl⟩ : ∃ wo : World, wo = wr := ⟨_, rfl⟩
                    go_wp2_with fail
                    go_loopw [13, 15] (fun nx iv wi => ∃ k : Nat, k ≤ l.length ∧ iv = .int .i64 k ∧ nx = .int .u32 (inn l ((q : Int) + 1) k (((lev l q).1 * 2) % 4294967296, (lev l q).2.1, (lev l q).2.2)).1 ∧ Hid (WBlk 43 wi w.heap.size (inn l ((q : Int) + 1) k (((lev l q).1 * 2) % 4294967296, (lev l q).2.1, (lev l q).2.2)).2.1) ∧ Hid (Below w.heap.size w wi) ∧ w.heap.size < wi.heap.size) (fun _ iv _ => l.length - (intOf iv).toNat)
                    case atStart => exact ⟨0, Nat.zero_le _, rfl, by first | rfl | (simp [inn]; done), HW, HB, hsz⟩
                    case round =>
                      obtain ⟨k, hk, rfl, rfl, HWi, HBi, hszi⟩ := hrel
                      by_cases hlt : k < l.length
                      · obtain ⟨a, x, ha, hcx, hx⟩ := (hr.out.below HBi.out).num k hlt
                        subst ha
                        have hwl := Lib.hid ((inn_len l ((q : Int) + 1) k (((lev l q).1 * 2) % 4294967296, (lev l q).2.1, (lev l q).2.2)).trans (lev_len l q))
                        generalize hst : inn l ((q : Int) + 1) k (((lev l q).1 * 2) % 4294967296, (lev l q).2.1, (lev l q).2.2) = st at *
                        have hsucc := Lib.hid (show inn l ((q : Int) + 1) (k + 1) (((lev l q).1 * 2) % 4294967296, (lev l q).2.1, (lev l q).2.2) = if l.getD k 0 = (q : Int) + 1 then ((st.1 + 1) % 4294967296, st.2.1.set k (st.1, (q : Int) + 1), st.2.2 ++ [(k : Int)]) else st by rw [← hst]; rfl)
                        clear hst
                        obtain ⟨nx, ws, so⟩ := st
                        by_cases hx1 : x = (q : Int) + 1
                        · have hxe : (x == (q : Int) + 1) = true := by simpa using hx1
                          have hs2 := Lib.hid (hsucc.out.trans (if_pos (hx.out.trans hx1)))
                          obtain ⟨hc1, hc2⟩ := HWi.out.at_ k (by rw [hwl.out]; exact hlt)
                          have hf1 := blk_frz HWi.out (k * 2)
                          have hf2 := blk_frz HWi.out (k * 2 + 1)
                          have HSet := Lib.hid (HWi.out.set k (by rw [hwl.out]; exact hlt) nx ((q : Int) + 1))
                          clear hsucc hx1
                          go_wp2
                          refine ⟨⟨k + 1, by omega, by go_num, by rw [hs2.out], Lib.hid ?_, Lib.hid ((HBi.out.setCell (Nat.le_refl _) _).setCell (Nat.le_refl _) _), by simpa using hszi⟩, by simp [intOf]; omega⟩
                          rw [hs2.out]
                          exact HSet.out
                        · have hxe : (x == (q : Int) + 1) = false := by simpa using hx1
                          have hs2 := Lib.hid (hsucc.out.trans (if_neg (by rw [hx.out]; exact hx1)))
                          clear hsucc hx1
                          go_wp2
                          exact ⟨⟨k + 1, by omega, by go_num, by rw [hs2.out], by rw [hs2.out]; exact HWi, HBi, hszi⟩, by simp [intOf]; omega⟩
                      · obtain rfl : k = l.length := by omega
                        have hlev := Lib.hid (show lev l (q + 1) = _ from rfl)
                        go_wp2
                        exact ⟨⟨q + 1, by omega, by go_num, rfl, HWi, HBi, hszi⟩, by simp [intOf]; omega⟩
                  · have hqe : most = (q : Int) := by omega
                    have hmq := Lib.hid (show most.toNat = q by omega)
                    clear hqe
                    go_wp2
                    go_ret2
                    unfold RefNew
                    rw [he.out]
                    refine ⟨.inr ⟨rfl, w.heap.size, rfl, Nat.le_refl _, ?_⟩, HB, by omega⟩
                    unfold wordsOf
                    rw [hmq.out]
                    exact HW
              · have h5 : ¬ s = 524288 := by have := hone.out; omega
                have he : Hid (newErr l most true = 13) := Lib.hid (by unfold newErr; rw [hba.out, hno.out, hF0.out]; simp [h1, h2, h5])
                have e4 : (o == 1) = false := by simpa using h4
                subst h3
                go_wp2
                go_ret2
                unfold RefNew
                rw [he.out]
                exact ⟨.inl ⟨by decide, rfl⟩, Lib.hid (Below.refl _ _), Nat.le_refl _⟩
            · have e3 : (n == 1) = false := by simpa using h3
              have he : Hid (newErr l most true = 13) := Lib.hid (by unfold newErr; rw [hba.out, hno.out, hF0.out]; simp [h1, h2, h3])
              go_wp2
              go_ret2
              unfold RefNew
              rw [he.out]
              exact ⟨.inl ⟨by decide, rfl⟩, Lib.hid (Below.refl _ _), Nat.le_refl _⟩
theorem refnew8 (A : Option Addr) (c : Nat) (l : List Int) (most : Int) (loose : Bool) (w : World) (hl : l.length ≤ 9223372036854775807) (hr : Hid (Rd w A (l.map (Value.int .i64)))) :
    Calls Try.prog 8 #[.slice A l.length c, .int .i64 most, .bool loose] w (RefNew w l most loose) := by
  by_cases h : most < 1 ∨ 20 < most ∨ l.length < 1 ∨ 65536 < l.length
  · exact refnew_bad A c l most loose w hl h
  · exact refnew_ok A c l most loose w (by omega) (by omega) (by omega) (by omega) hr
end Go.Proofs.Ytejieakikboedaa
