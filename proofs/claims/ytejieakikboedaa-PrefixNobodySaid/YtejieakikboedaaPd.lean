/- The contract of prefix.New where the arguments may be, over the seat's program. -/
import Derived.Test.YtejieakikboedaaPc
import Derived.Deep.RegionHeld
namespace Go.Proofs.Ytejieakikboedaa
open Go.RowKit Go.Proofs.YtejieakikboedaaK
set_option linter.unusedVariables false
set_option linter.unusedSimpArgs false
theorem CodeAt.set_fp {w : World} {g gw n : Nat} {sl : Value} {F C P : Nat → Int} {ws : List (Int × Int)} {so : List Int} {most : Int} (h : CodeAt w g gw sl n F C P ws so most) (i : Nat) (hi : i < 22) (x y : Int) :
    CodeAt ((w.setCell ⟨g, 1 + i, none⟩ (.int .u32 x)).setCell ⟨g, 45 + i, none⟩ (.int .i64 y)).drew g gw sl n (upd F i x) C (upd P i y) ws so most := by
  refine ⟨?_, ?_, ?_, h.lt⟩
  · have := blk_set (blk_set h.blk (1 + i) (.int .u32 x)) (45 + i) (.int .i64 y)
    rw [code_set_first _ _ _ _ _ _ i hi, code_set_place _ _ _ _ _ _ i hi] at this
    exact this
  · exact blk_other (blk_other h.wds ⟨g, 1 + i, none⟩ _ (Nat.ne_of_lt h.lt)) ⟨g, 45 + i, none⟩ _ (Nat.ne_of_lt h.lt)
  · exact ownsRow_setCell_below (a := ⟨g, 45 + i, none⟩) (ownsRow_setCell_below (a := ⟨g, 1 + i, none⟩) h.srt (Nat.lt_succ_self g) _) (Nat.lt_succ_self g) _
theorem CodeAt.set_c {w : World} {g gw n : Nat} {sl : Value} {F C P : Nat → Int} {ws : List (Int × Int)} {so : List Int} {most : Int} (h : CodeAt w g gw sl n F C P ws so most) (i : Nat) (hi : i < 22) (y : Int) :
    CodeAt (w.setCell ⟨g, 23 + i, none⟩ (.int .i64 y)).drew g gw sl n F (upd C i y) P ws so most := by
  refine ⟨?_, ?_, ?_, h.lt⟩
  · have := blk_set h.blk (23 + i) (.int .i64 y)
    rw [code_set_count _ _ _ _ _ _ i hi] at this
    exact this
  · exact blk_other h.wds ⟨g, 23 + i, none⟩ _ (Nat.ne_of_lt h.lt)
  · exact ownsRow_setCell_below (a := ⟨g, 23 + i, none⟩) h.srt (Nat.lt_succ_self g) _
theorem CodeAt.word {w : World} {g gw n : Nat} {sl : Value} {F C P : Nat → Int} {ws : List (Int × Int)} {so : List Int} {most : Int} (h : CodeAt w g gw sl n F C P ws so most) (k : Nat) (hk : k < ws.length) (a b : Int) :
    CodeAt ((w.setCell ⟨gw, k * 2, none⟩ (.int .u32 a)).setCell ⟨gw, k * 2 + 1, none⟩ (.int .i64 b)) g gw sl n F C P (ws.set k (a, b)) so most := by
  refine ⟨?_, h.wds.set k hk a b, ?_, h.lt⟩
  · exact blk_other (blk_other h.blk ⟨gw, k * 2, none⟩ _ (Nat.ne_of_gt h.lt)) ⟨gw, k * 2 + 1, none⟩ _ (Nat.ne_of_gt h.lt)
  · exact ownsRow_setCell_below (a := ⟨gw, k * 2 + 1, none⟩) (ownsRow_setCell_below (a := ⟨gw, k * 2, none⟩) h.srt (Nat.lt_succ_of_lt h.lt) _) (Nat.lt_succ_of_lt h.lt) _
/-- Its symbols' row has grown (a new value v), then it is written down. -/
theorem CodeAt.pushed {w w1 : World} {g gw n : Nat} {sl v : Value} {F C P : Nat → Int} {ws : List (Int × Int)} {so : List Int} {most s : Int} (h : CodeAt w g gw sl n F C P ws so most) (hg : Below (g + 1) w w1) (ho : w1.ownsRow (g + 1) 3 1 v (so.length + 1) (so.map (Value.int .i64) ++ [.int .i64 s])) :
    CodeAt (w1.setCell ⟨g, 67, none⟩ v) g gw v n F C P ws (so ++ [s]) most := by
  refine ⟨?_, ?_, ?_, h.lt⟩
  · have := blk_set ((hg.block g (Nat.lt_succ_self g)).trans h.blk) 67 v
    rw [code_set_67] at this
    exact this
  · exact blk_other ((hg.block gw (Nat.lt_succ_of_lt h.lt)).trans h.wds) ⟨g, 67, none⟩ _ (Nat.ne_of_lt h.lt)
  · have := ownsRow_setCell_below (a := ⟨g, 67, none⟩) ho (Nat.lt_succ_self g) v
    rw [List.length_append, List.length_singleton, List.map_append]
    exact this
theorem go_stop {p : Prop} (h : Hid p) : p := h.out
theorem cell_set {w : World} {a p : Addr} {x u : Value} (h : w.cell? a = some x) (hne : a.block ≠ p.block) : (w.setCell p u).cell? a = some x := (World.cell?_of_block (Below.heap_setCell w p u _ hne)).trans h
theorem inn_so (ls : List Int) (l : Int) (k : Nat) (st : Int × List (Int × Int) × List Int) : (inn ls l k st).2.2.length ≤ st.2.2.length + k := by
  induction k with
  | zero => exact Nat.le_refl _
  | succ k ih =>
    simp only [inn]
    split
    · simp only [List.length_append, List.length_singleton]
      omega
    · omega
theorem lev_so0 (ls : List Int) (q : Nat) : (lev ls q).2.2.length ≤ q * ls.length := by
  induction q with
  | zero => simp [lev]
  | succ q ih =>
    simp only [lev]
    have := inn_so ls ((q : Int) + 1) ls.length (((lev ls q).1 * 2) % 4294967296, (lev ls q).2.1, (lev ls q).2.2)
    simp only at this
    rw [Nat.succ_mul]
    omega
theorem lev_so (ls : List Int) (q : Nat) (hq : q ≤ 20) (hl : ls.length ≤ 65536) : (lev ls q).2.2.length ≤ 1310720 := by
  have h1 := lev_so0 ls q
  have h2 := Nat.mul_le_mul hq hl
  omega
theorem colP_now (l : List Int) (q : Nat) : colP l (q + 1) (q + 1) = ((lev l q).2.2.length : Int) := by
  unfold colP
  rw [if_pos (by omega), Nat.add_sub_cancel]
theorem colF0 (l : List Int) : colF l 0 = fun _ => 0 := by funext i; unfold colF; rw [if_neg (by omega)]
theorem colC0 (l : List Int) : colC l 0 = fun _ => 0 := by funext i; unfold colC; rw [if_neg (by omega)]
theorem colP0 (l : List Int) : colP l 0 = fun _ => 0 := by funext i; unfold colP; rw [if_neg (by omega)]
theorem colF_step (l : List Int) (q : Nat) : upd (colF l q) (q + 1) (((lev l q).1 * 2) % 4294967296) = colF l (q + 1) := by
  funext i
  unfold upd colF
  by_cases h : i = q + 1
  · rw [if_pos h, if_pos (by omega), h, Nat.add_sub_cancel]
  · rw [if_neg h]
    by_cases h2 : 1 ≤ i ∧ i ≤ q
    · rw [if_pos h2, if_pos (by omega)]
    · rw [if_neg h2, if_neg (by omega)]
theorem colP_step (l : List Int) (q : Nat) : upd (colP l q) (q + 1) ((lev l q).2.2.length : Int) = colP l (q + 1) := by
  funext i
  unfold upd colP
  by_cases h : i = q + 1
  · rw [if_pos h, if_pos (by omega), h, Nat.add_sub_cancel]
  · rw [if_neg h]
    by_cases h2 : 1 ≤ i ∧ i ≤ q
    · rw [if_pos h2, if_pos (by omega)]
    · rw [if_neg h2, if_neg (by omega)]
theorem colC_step (l : List Int) (q : Nat) : upd (colC l q) (q + 1) (((lev l (q + 1)).2.2.length : Int) - ((lev l q).2.2.length : Int)) = colC l (q + 1) := by
  funext i
  unfold upd colC
  by_cases h : i = q + 1
  · rw [if_pos h, if_pos (by omega), h, Nat.add_sub_cancel]
  · rw [if_neg h]
    by_cases h2 : 1 ≤ i ∧ i ≤ q
    · rw [if_pos h2, if_pos (by omega)]
    · rw [if_neg h2, if_neg (by omega)]
theorem zero54 (W : World) : (zeroValue 54).run Try.prog W = .ok (.agg (codeC (.slice none 0 0) (fun _ => 0) (fun _ => 0) (fun _ => 0) (.slice none 0 0) 0).toArray) W := by kernel_rfl
attribute [local go_sem] code_set0 code_set68 code_nil code_len zero54   -- for this text's walks alone
set_option maxHeartbeats 4000000 in
set_option maxRecDepth 100000 in
theorem new_ok (A : Option Addr) (c : Nat) (l : List Int) (most : Int) (loose : Bool) (w : World) (hr : Hid (Rd w A (l.map (Value.int .i64)))) (hgood : badArg l most = false) :
    Calls Try.prog 7 #[.slice A l.length c, .int .i64 most, .bool loose] w (NewPost w l most loose) := by
  have hba := Lib.hid hgood
  obtain ⟨hm0, hm1, hl0, hl, hany⟩ : 1 ≤ most ∧ most ≤ 20 ∧ 1 ≤ l.length ∧ l.length ≤ 65536 ∧ l.any (oddB most) = false := by
    unfold badArg at hgood
    simp only [Bool.or_eq_false_iff, decide_eq_false_iff_not] at hgood
    obtain ⟨⟨⟨⟨h1, h2⟩, h3⟩, h4⟩, h5⟩ := hgood
    exact ⟨by omega, by omega, by omega, by omega, h5⟩
  have Hany := Lib.hid hany
  have hbds := Lib.hid (show ∀ x ∈ l, 0 ≤ x ∧ x ≤ 20 from fun x hx => by
    have h1 := List.any_eq_false.1 hany x hx
    simp [oddB] at h1
    omega)
  clear hgood hany
  have hb1 := Lib.hid ((Below.refl w.heap.size w).alloc (Nat.le_refl _) (.cells #[.int .i64 most] 3))
  have hr1 := Lib.hid (hr.out.below hb1.out)
  go_enter Try.func7, Try.ntmps7
  go_wp2_with fail
  refine (contains27 A c l most _ _ (by omega) (by simp [World.cell?_alloc_new]) hr1).mono ?_
  rintro e w' ⟨rfl, rfl⟩
  rw [Hany.out]
  go_wp2_with fail
  refine (full28 A c l loose _ hl hbds hr1).mono ?_
  rintro e w' ⟨rfl, rfl⟩
  cases hfu : fullB l loose with
  | false =>
    have he : Hid (newErr l most loose = 13) := Lib.hid (by unfold newErr; rw [hba.out, hfu]; rfl)
    clear hfu
    go_wp2
    go_ret2
    unfold NewPost
    rw [he.out]
    exact ⟨.inl ⟨by decide, rfl⟩, hb1, by simp⟩
  | true =>
    have he : Hid (newErr l most loose = 0) := Lib.hid (by unfold newErr; rw [hba.out, hfu]; rfl)
    clear hfu
    have hpm : (w.alloc (.cells #[.int .i64 most] 3)).cell? ⟨w.heap.size, 0, none⟩ = some (.int .i64 most) := by simp [World.cell?_alloc_new]
    have hs1 : (w.alloc (.cells #[.int .i64 most] 3)).heap.size = w.heap.size + 1 := by simp
    generalize w.alloc (.cells #[.int .i64 most] 3) = w1 at *
    have hs1' := Lib.hid hs1
    clear hs1
    have hmk : ∀ W : World, (Instr.makeSlice 50 (.int .i64 (l.length : Int)) (.int .i64 (l.length : Int))).run Try.prog W = .ok (.slice (some ⟨W.heap.size, 0, none⟩) l.length l.length) (W.alloc (.cells (wcells (List.replicate l.length (0, 0))).toArray 72)) := fun W => by
      obtain ⟨i0, hi, hz0, hz1, hz2⟩ := info_parts info72
      have h := run_make (P := Try.prog) W 50 72 i0 _ Try.underlying50 hi hz0 .i64 .i64 (l.length : Int) (l.length : Int) (by omega) (Int.le_refl _) (by rw [hz2]; omega) (by omega)
      rw [hz1] at h
      simp only [Int.toNat_natCast] at h
      rw [h]
      have e1 : (Value.agg #[.int .u32 0, .int .i64 0]).cells = #[.int .u32 0, .int .i64 0] := rfl
      rw [e1, wcells_zero, ← madeCells_two]
    have hpma : ∀ o, (w1.alloc o).cell? ⟨w.heap.size, 0, none⟩ = some (.int .i64 most) := fun o => ((Below.refl w1.heap.size w1).alloc (Nat.le_refl _) o).cell (World.block_lt_of_cell? w1 _ hpm) |>.trans hpm
    go_wp2
    go_region
    have hW2 : Hid (CodeAt ((w1.alloc (.cells (wcells (List.replicate l.length (0, 0))).toArray 72)).alloc (.cells (codeC (.slice (some ⟨w1.heap.size, 0, none⟩) l.length l.length) (fun _ => 0) (fun _ => 0) (fun _ => 0) (.slice none 0 0) most).toArray 54)).drew (w1.heap.size + 1) w1.heap.size (.slice none 0 0) l.length (colF l 0) (colC l 0) (colP l 0) (lev l 0).2.1 (lev l 0).2.2 most) := Lib.hid (by
      refine ⟨?_, ?_, nil_own _ _ _, by omega⟩
      · have := heap_alloc_new (w1.alloc (.cells (wcells (List.replicate l.length (0, 0))).toArray 72)) (.cells (codeC (.slice (some ⟨w1.heap.size, 0, none⟩) l.length l.length) (fun _ => 0) (fun _ => 0) (fun _ => 0) (.slice none 0 0) most).toArray 54)
        simp only [World.size_alloc] at this
        rw [colF0, colC0, colP0]
        exact this
      · have h1 := heap_alloc_new w1 (.cells (wcells (List.replicate l.length (0, 0))).toArray 72)
        exact (heap_alloc_old _ _ (by simp)).trans h1)
    have hpm2 : Hid (((w1.alloc (.cells (wcells (List.replicate l.length (0, 0))).toArray 72)).alloc (.cells (codeC (.slice (some ⟨w1.heap.size, 0, none⟩) l.length l.length) (fun _ => 0) (fun _ => 0) (fun _ => 0) (.slice none 0 0) most).toArray 54)).drew.cell? ⟨w.heap.size, 0, none⟩ = some (.int .i64 most)) := Lib.hid (((Below.refl (w1.heap.size + 1) (w1.alloc (.cells (wcells (List.replicate l.length (0, 0))).toArray 72))).alloc (by simp) _).cell (p := ⟨w.heap.size, 0, none⟩) (by have := hs1'.out; simp; omega) |>.trans (hpma _))
    have hB2 : Hid (Below w.heap.size w ((w1.alloc (.cells (wcells (List.replicate l.length (0, 0))).toArray 72)).alloc (.cells (codeC (.slice (some ⟨w1.heap.size, 0, none⟩) l.length l.length) (fun _ => 0) (fun _ => 0) (fun _ => 0) (.slice none 0 0) most).toArray 54)).drew) := Lib.hid (below_drew ((hb1.out.alloc (by have := hs1'.out; omega) _).alloc (by have := hs1'.out; simp; omega) _))
    have hz2 : w1.heap.size + 1 < ((w1.alloc (.cells (wcells (List.replicate l.length (0, 0))).toArray 72)).alloc (.cells (codeC (.slice (some ⟨w1.heap.size, 0, none⟩) l.length l.length) (fun _ => 0) (fun _ => 0) (fun _ => 0) (.slice none 0 0) most).toArray 54)).drew.heap.size := by simp
    have hgw : w.heap.size < w1.heap.size := by have := hs1'.out; omega
    generalize ((w1.alloc (.cells (wcells (List.replicate l.length (0, 0))).toArray 72)).alloc (.cells (codeC (.slice (some ⟨w1.heap.size, 0, none⟩) l.length l.length) (fun _ => 0) (fun _ => 0) (fun _ => 0) (.slice none 0 0) most).toArray 54)).drew = w2 at *
    generalize w1.heap.size = gw at *
    clear hpma hmk hpm hr1 hb1 hs1'
    go_wp2
    go_loopw [10, 11] (fun nx lv wr => ∃ (q : Nat) (sl : Value), (q : Int) ≤ most ∧ lv = .int .i64 ((q : Int) + 1) ∧ nx = .int .u32 (lev l q).1 ∧ Hid (CodeAt wr (gw + 1) gw sl l.length (colF l q) (colC l q) (colP l q) (lev l q).2.1 (lev l q).2.2 most) ∧ Hid (wr.cell? ⟨w.heap.size, 0, none⟩ = some (.int .i64 most)) ∧ Hid (Below w.heap.size w wr) ∧ gw + 1 < wr.heap.size) (fun _ lv _ => (most + 1 - intOf lv).toNat)
    case atStart => exact ⟨0, .slice none 0 0, by omega, rfl, rfl, hW2, hpm2, hB2, hz2⟩
    case round =>
      obtain ⟨q, sl, hq, rfl, rfl, HC, HM, HB, hsz⟩ := hrel
      have hcm := HM.out
      obtain ⟨A1, c1, hv, _⟩ := own_slice HC.out.srt
      subst hv
      have hc67 := blk_at HC.out.blk 67
      rw [code_67] at hc67
      by_cases hql : (q : Int) + 1 ≤ most
      · have hq22 : q + 1 < 22 := by omega
        have hcf := blk_at HC.out.blk (1 + (q + 1))
        rw [code_first _ _ _ _ _ _ (q + 1) hq22] at hcf
        have hcp := blk_at HC.out.blk (45 + (q + 1))
        rw [code_place _ _ _ _ _ _ (q + 1) hq22] at hcp
        have hff := blk_frz HC.out.blk (1 + (q + 1))
        have hfp := blk_frz HC.out.blk (45 + (q + 1))
        go_wp2
        go_region
        have HC2 := Lib.hid (HC.out.set_fp (q + 1) hq22 (((lev l q).1 * 2) % 4294967296) ((lev l q).2.2.length : Int))
        have HM2 : Hid (((wr.setCell ⟨gw + 1, 1 + (q + 1), none⟩ (.int .u32 (((lev l q).1 * 2) % 4294967296))).setCell ⟨gw + 1, 45 + (q + 1), none⟩ (.int .i64 ((lev l q).2.2.length : Int))).drew.cell? ⟨w.heap.size, 0, none⟩ = some (.int .i64 most)) := Lib.hid (cell_set (p := ⟨gw + 1, 45 + (q + 1), none⟩) (u := .int .i64 ((lev l q).2.2.length : Int)) (cell_set (p := ⟨gw + 1, 1 + (q + 1), none⟩) (u := .int .u32 (((lev l q).1 * 2) % 4294967296)) HM.out (show w.heap.size ≠ gw + 1 by omega)) (show w.heap.size ≠ gw + 1 by omega))
        have HB2 := Lib.hid (below_drew ((HB.out.setCell (p := ⟨gw + 1, 1 + (q + 1), none⟩) (show w.heap.size ≤ gw + 1 by omega) (.int .u32 (((lev l q).1 * 2) % 4294967296))).setCell (p := ⟨gw + 1, 45 + (q + 1), none⟩) (show w.heap.size ≤ gw + 1 by omega) (.int .i64 ((lev l q).2.2.length : Int))))
        have hsz2 : gw + 1 < ((wr.setCell ⟨gw + 1, 1 + (q + 1), none⟩ (.int .u32 (((lev l q).1 * 2) % 4294967296))).setCell ⟨gw + 1, 45 + (q + 1), none⟩ (.int .i64 ((lev l q).2.2.length : Int))).drew.heap.size := by simpa using hsz
        rw [colF_step, colP_step] at HC2
        go_wp2
        generalize ((wr.setCell ⟨gw + 1, 1 + (q + 1), none⟩ (.int .u32 (((lev l q).1 * 2) % 4294967296))).setCell ⟨gw + 1, 45 + (q + 1), none⟩ (.int .i64 ((lev l q).2.2.length : Int))).drew = w3 at *
        clear hcf hcp hff hfp hc67 hcm HC HM HB hsz hW2 hpm2 hB2 hz2
        have HLb := Lib.hid (lev_so l q (by omega) hl)
        have HLb2 := Lib.hid (lev_so l (q + 1) (by omega) hl)
        go_loopw [10, 73] (fun nx iv wi => ∃ (k : Nat) (s2 : Value), k ≤ l.length ∧ iv = .int .i64 k ∧ nx = .int .u32 (inn l ((q : Int) + 1) k (((lev l q).1 * 2) % 4294967296, (lev l q).2.1, (lev l q).2.2)).1 ∧ Hid (CodeAt wi (gw + 1) gw s2 l.length (colF l (q + 1)) (colC l q) (colP l (q + 1)) (inn l ((q : Int) + 1) k (((lev l q).1 * 2) % 4294967296, (lev l q).2.1, (lev l q).2.2)).2.1 (inn l ((q : Int) + 1) k (((lev l q).1 * 2) % 4294967296, (lev l q).2.1, (lev l q).2.2)).2.2 most) ∧ Hid (wi.cell? ⟨w.heap.size, 0, none⟩ = some (.int .i64 most)) ∧ Hid (Below w.heap.size w wi) ∧ gw + 1 < wi.heap.size) (fun _ iv _ => l.length - (intOf iv).toNat)
        case atStart => exact ⟨0, _, Nat.zero_le _, rfl, rfl, HC2, HM2, HB2, hsz2⟩
        case round =>
          obtain ⟨k, s2, hk, rfl, rfl, HCi, HMi, HBi, hszi⟩ := hrel
          by_cases hlt : k < l.length
          · obtain ⟨a, x, ha, hcx, hx⟩ := (hr.out.below HBi.out).num k hlt
            subst ha
            have hwl := Lib.hid ((inn_len l ((q : Int) + 1) k (((lev l q).1 * 2) % 4294967296, (lev l q).2.1, (lev l q).2.2)).trans (lev_len l q))
            have hso := Lib.hid (inn_so l ((q : Int) + 1) k (((lev l q).1 * 2) % 4294967296, (lev l q).2.1, (lev l q).2.2))
            generalize hst : inn l ((q : Int) + 1) k (((lev l q).1 * 2) % 4294967296, (lev l q).2.1, (lev l q).2.2) = st at *
            have hsucc := Lib.hid (show inn l ((q : Int) + 1) (k + 1) (((lev l q).1 * 2) % 4294967296, (lev l q).2.1, (lev l q).2.2) = if l.getD k 0 = (q : Int) + 1 then ((st.1 + 1) % 4294967296, st.2.1.set k (st.1, (q : Int) + 1), st.2.2 ++ [(k : Int)]) else st by rw [← hst]; rfl)
            clear hst
            obtain ⟨nx, ws, so⟩ := st
            dsimp only at HCi hso hwl hsucc ⊢
            by_cases hx1 : x = (q : Int) + 1
            · have hxe : (x == (q : Int) + 1) = true := by simpa using hx1
              have hs2 := Lib.hid (hsucc.out.trans (if_pos (hx.out.trans hx1)))
              obtain ⟨hc1, hc2⟩ := HCi.out.wds.at_ k (by rw [hwl.out]; exact hlt)
              have hf1 := blk_frz HCi.out.wds (k * 2)
              have hf2 := blk_frz HCi.out.wds (k * 2 + 1)
              have hc0 := blk_at HCi.out.blk 0
              rw [code_0] at hc0
              clear hsucc hx1
              have hc67 := blk_at HCi.out.blk 67
              rw [code_67] at hc67
              obtain ⟨A3, c3, hv3, _⟩ := own_slice HCi.out.srt
              subst hv3
              have HCw := Lib.hid (HCi.out.word k (by rw [hwl.out]; exact hlt) nx ((q : Int) + 1))
              have HOw := Lib.hid HCw.out.srt
              have HBw := Lib.hid (Below.refl (gw + 1 + 1) ((wr.setCell ⟨gw, k * 2, none⟩ (.int .u32 nx)).setCell ⟨gw, k * 2 + 1, none⟩ (.int .i64 ((q : Int) + 1))))
              have hszw : gw + 1 + 1 ≤ ((wr.setCell ⟨gw, k * 2, none⟩ (.int .u32 nx)).setCell ⟨gw, k * 2 + 1, none⟩ (.int .i64 ((q : Int) + 1))).heap.size := by simp; omega
              have hsob : so.length < 1000000000000 := by have h1 := hso.out; have h2 := HLb.out; omega
              have hcw67 := blk_at HCw.out.blk 67
              rw [code_67] at hcw67
              have Hcw67 := Lib.hid hcw67
              have hNN : Hid (wr.heap.size = ((wr.setCell ⟨gw, k * 2, none⟩ (.int .u32 nx)).setCell ⟨gw, k * 2 + 1, none⟩ (.int .i64 ((q : Int) + 1))).heap.size) := Lib.hid (by simp)
              clear hcw67
              go_wp2_with (at_builtin; refine go_stop ?_)
              refine Lib.hid ?_
              refine wpList_app1N wr.heap.size hNN rfl (.tmp 94) (.tmp 96) 22 3 (.int .i64 0) 8 rfl Try.underlying22 info3 rfl (gw + 1 + 1) (gw + 1 + 1) _ (.slice A3 so.length c3) so.length (so.map (Value.int .i64)) rfl HOw (.int .i64 _) rfl rfl hsob (by omega) hszw (Nat.le_refl _) HBw ?_
              intro v' w5 HO5 HB5 hsz5
              obtain ⟨A5, c5, hv5, _⟩ := own_slice HO5.out
              subst hv5
              have hc5 := (HB5.out.cell (p := ⟨gw + 1, 67, none⟩) (Nat.lt_succ_self _)).trans Hcw67.out
              have hf5 := (HB5.out.frozen (p := ⟨gw + 1, 67, none⟩) (Nat.lt_succ_self _)).trans (blk_frz HCw.out.blk 67)
              go_wp2
              refine ⟨⟨k + 1, .slice A5 (so.length + 1) c5, by omega, by go_num, by rw [hs2.out], Lib.hid ?_, Lib.hid ?_, Lib.hid ?_, ?_⟩, by simp [intOf]; omega⟩
              · rw [hs2.out]
                exact HCw.out.pushed HB5.out HO5.out
              · refine cell_set (p := ⟨gw + 1, 67, none⟩) ((HB5.out.cell (p := ⟨w.heap.size, 0, none⟩) (show w.heap.size < gw + 1 + 1 by omega)).trans ?_) (show w.heap.size ≠ gw + 1 by omega)
                exact cell_set (p := ⟨gw, k * 2 + 1, none⟩) (cell_set (p := ⟨gw, k * 2, none⟩) HMi.out (show w.heap.size ≠ gw by omega)) (show w.heap.size ≠ gw by omega)
              · exact (((HBi.out.setCell (p := ⟨gw, k * 2, none⟩) (show w.heap.size ≤ gw by omega) _).setCell (p := ⟨gw, k * 2 + 1, none⟩) (show w.heap.size ≤ gw by omega) _).trans (HB5.out.mono (show w.heap.size ≤ gw + 1 + 1 by omega))).setCell (p := ⟨gw + 1, 67, none⟩) (show w.heap.size ≤ gw + 1 by omega) _
              · simp at hszw hsz5 ⊢
                omega
            · have hxe : (x == (q : Int) + 1) = false := by simpa using hx1
              have hs2 := Lib.hid (hsucc.out.trans (if_neg (by rw [hx.out]; exact hx1)))
              clear hsucc hx1
              go_wp2
              exact ⟨⟨k + 1, s2, by omega, by go_num, by rw [hs2.out], by rw [hs2.out]; exact HCi, HMi, HBi, hszi⟩, by simp [intOf]; omega⟩
          · obtain rfl : k = l.length := by omega
            have hlev := Lib.hid (show lev l (q + 1) = inn l ((q : Int) + 1) l.length (((lev l q).1 * 2) % 4294967296, (lev l q).2.1, (lev l q).2.2) from rfl)
            rw [← hlev.out] at HCi ⊢
            obtain ⟨A3, c3, hv3, _⟩ := own_slice HCi.out.srt
            subst hv3
            have hc67 := blk_at HCi.out.blk 67
            rw [code_67] at hc67
            have hcp := blk_at HCi.out.blk (45 + (q + 1))
            rw [code_place _ _ _ _ _ _ (q + 1) hq22, colP_now] at hcp
            have hcc := blk_at HCi.out.blk (23 + (q + 1))
            rw [code_count _ _ _ _ _ _ (q + 1) hq22] at hcc
            have hfc := blk_frz HCi.out.blk (23 + (q + 1))
            have hL1 := HLb.out
            have hL2 := HLb2.out
            go_wp2
            go_region
            have HC3 := Lib.hid (HCi.out.set_c (q + 1) hq22 (((lev l (q + 1)).2.2.length : Int) - ((lev l q).2.2.length : Int)))
            have HM3 : Hid ((wr.setCell ⟨gw + 1, 23 + (q + 1), none⟩ (.int .i64 (((lev l (q + 1)).2.2.length : Int) - ((lev l q).2.2.length : Int)))).drew.cell? ⟨w.heap.size, 0, none⟩ = some (.int .i64 most)) := Lib.hid (cell_set (p := ⟨gw + 1, 23 + (q + 1), none⟩) (u := .int .i64 (((lev l (q + 1)).2.2.length : Int) - ((lev l q).2.2.length : Int))) HMi.out (show w.heap.size ≠ gw + 1 by omega))
            have HB3 := Lib.hid (below_drew (HBi.out.setCell (p := ⟨gw + 1, 23 + (q + 1), none⟩) (show w.heap.size ≤ gw + 1 by omega) (.int .i64 (((lev l (q + 1)).2.2.length : Int) - ((lev l q).2.2.length : Int)))))
            have hsz3 : gw + 1 < (wr.setCell ⟨gw + 1, 23 + (q + 1), none⟩ (.int .i64 (((lev l (q + 1)).2.2.length : Int) - ((lev l q).2.2.length : Int)))).drew.heap.size := by simpa using hszi
            rw [colC_step] at HC3
            go_wp2
            exact ⟨⟨q + 1, _, by omega, by go_num, rfl, HC3, HM3, HB3, hsz3⟩, by simp [intOf]; omega⟩
      · have hqm : (q : Int) = most := by omega
        go_wp2
        go_ret2
        unfold NewPost
        have hqn : most.toNat = q := by omega
        rw [hqn]
        exact ⟨.inr ⟨he.out, gw + 1, gw, .slice A1 _ c1, rfl, by omega, HC⟩, HB, by omega⟩
theorem new7 (A : Option Addr) (c : Nat) (l : List Int) (most : Int) (loose : Bool) (w : World) (hl : l.length ≤ 9223372036854775807) (hr : Hid (Rd w A (l.map (Value.int .i64)))) :
    Calls Try.prog 7 #[.slice A l.length c, .int .i64 most, .bool loose] w (NewPost w l most loose) := by
  cases h : badArg l most
  · exact new_ok A c l most loose w hr h
  · exact new_bad A c l most loose w hl hr h
end Go.Proofs.Ytejieakikboedaa
