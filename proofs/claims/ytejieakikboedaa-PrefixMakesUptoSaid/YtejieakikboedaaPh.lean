/- The walk of the statement PrefixMakes, where the lengths make a code. -/
import Derived.Test.YtejieakikboedaaPg
import Derived.WalkSmall
namespace Go.Proofs.Ytejieakikboedaa
open Go.RowKit Go.Proofs.YtejieakikboedaaK
set_option linter.unusedVariables false
set_option linter.unusedSimpArgs false
theorem good_bounds {l : List Int} {most : Int} {loose : Bool} (h : newErr l most loose = 0) : 1 ≤ most ∧ most ≤ 20 ∧ 1 ≤ l.length ∧ l.length ≤ 65536 := by
  unfold newErr at h
  split at h
  · cases h
  · rename_i hb
    unfold badArg at hb
    simp only [Bool.or_eq_true, decide_eq_true_eq, not_or] at hb
    omega
theorem CodeAt.far {w : World} {g gw n : Nat} {sl : Value} {F C P : Nat → Int} {ws : List (Int × Int)} {so : List Int} {most : Int} (h : CodeAt w g gw sl n F C P ws so most) {p : Addr} (hp : p.block < gw) (u : Value) : CodeAt (w.setCell p u) g gw sl n F C P ws so most := by
  have := h.lt
  exact ⟨blk_other h.blk p u (by omega), blk_other h.wds p u (by omega), ownsRow_setCell_below h.srt (by omega) u, h.lt⟩
theorem has_word {ws : List (Int × Int)} (hwd : Wd ws) (s : Int) (h : hasB ws s = true) : ∃ k : Nat, s = k ∧ k < ws.length ∧ wordOf ws s = ((ws.getD k (0, 0)).1, (ws.getD k (0, 0)).2, 0) := by
  unfold hasB at h
  simp only [Bool.and_eq_true, decide_eq_true_eq] at h
  obtain ⟨⟨h1, h2⟩, h3⟩ := h
  refine ⟨s.toNat, by omega, by omega, ?_⟩
  unfold wordOf
  rw [if_neg]
  rintro (h | h | h)
  · omega
  · omega
  · rw [h] at h3; simp at h3
theorem has_nat {ws : List (Int × Int)} (hwd : Wd ws) (k : Nat) (h : hasB ws k = true) : k < ws.length ∧ wordOf ws k = ((ws.getD k (0, 0)).1, (ws.getD k (0, 0)).2, 0) := by
  obtain ⟨k', h1, h2, h3⟩ := has_word hwd k h
  obtain rfl : k = k' := by omega
  exact ⟨h2, h3⟩
theorem hasnt_word {ws : List (Int × Int)} (hwd : Wd ws) (s : Int) (h : hasB ws s = false) : wordOf ws s = (0, 0, 2) := by
  unfold wordOf
  refine if_pos ?_
  by_cases h0 : s < 0
  · exact .inl h0
  by_cases h1 : (ws.length : Int) ≤ s
  · exact .inr (.inl h1)
  · refine .inr (.inr ?_)
    rcases hwd.at_ s.toNat with h2 | h2
    · exact h2
    · unfold lenAt at h2
      unfold hasB at h
      rw [decide_eq_true (by omega), decide_eq_true (by omega), decide_eq_true (by omega)] at h
      cases h
set_option maxHeartbeats 4000000 in
set_option maxRecDepth 100000 in
theorem makes_ok (A : Option Addr) (c : Nat) (l : List Int) (most : Int) (loose : Bool) (A2 : Option Addr) (c2 : Nat) (cs : List Int) (far : Int) (w : World) (hi : Hid (MakesIn w A c l A2 c2 cs)) (hE : newErr l most loose = 0) :
    Calls Try.prog 3 #[.agg #[.slice A l.length c, .int .i64 most, .bool loose], .slice A2 cs.length c2, .int .i64 far] w fun e w' => e = .returned (.bool true) ∧ Below w.heap.size w w' := by
  obtain ⟨hm1, hm20, hl1, hl65⟩ := good_bounds hE
  have HE := Lib.hid hE
  have HWD := Lib.hid (wd_lev l most.toNat (by omega))
  have hwl := Lib.hid (lev_len l most.toNat)
  clear hE
  have b0 : Below w.heap.size w (w.alloc (.cells #[.slice A l.length c, .int .i64 most, .bool loose] 24)) := (Below.refl _ _).alloc (Nat.le_refl _) _
  have b00 : Below (w.heap.size + 1) (w.alloc (.cells #[.slice A l.length c, .int .i64 most, .bool loose] 24)) ((w.alloc (.cells #[.slice A l.length c, .int .i64 most, .bool loose] 24)).alloc (.cells #[] 3)) := (Below.refl _ _).alloc (by simp) _
  have HB0 := Lib.hid b0
  have HB00 := Lib.hid b00
  have HO0 : Hid (((w.alloc (.cells #[.slice A l.length c, .int .i64 most, .bool loose] 24)).alloc (.cells #[] 3)).ownsRow (w.heap.size + 1) 3 1 (.slice (some ⟨w.heap.size + 1, 0, none⟩) 0 0) 0 []) := Lib.hid (by
    have := World.ownsRow_lit (base := w.heap.size + 1) (size := 1) (e := 3) (w.alloc (.cells #[.slice A l.length c, .int .i64 most, .bool loose] 24)) #[] 0 (by simp) (by decide) rfl
    simpa using this)
  have HR0 := Lib.hid ((hi.out.rd.below b0).below (b00.mono (by simp)))
  have HN := Lib.hid hi.out.nil
  have hlen := Lib.hid (length_ints l .i64)
  have hl := hi.out.len
  have hx0 : (w.alloc (.cells #[.slice A l.length c, .int .i64 most, .bool loose] 24)).cell? ⟨w.heap.size, 0, none⟩ = some (.slice A l.length c) := by simp [World.cell?_alloc_new]
  have hx1 : (w.alloc (.cells #[.slice A l.length c, .int .i64 most, .bool loose] 24)).cell? ⟨w.heap.size, 1, none⟩ = some (.int .i64 most) := by simp [World.cell?_alloc_new]
  have hx2 : (w.alloc (.cells #[.slice A l.length c, .int .i64 most, .bool loose] 24)).cell? ⟨w.heap.size, 2, none⟩ = some (.bool loose) := by simp [World.cell?_alloc_new]
  have hsz0 : (w.alloc (.cells #[.slice A l.length c, .int .i64 most, .bool loose] 24)).heap.size = w.heap.size + 1 := by simp
  go_enter Try.func3, Try.ntmps3
  have Hx0 := Lib.hid hx0
  have Hx1 := Lib.hid hx1
  have Hx2 := Lib.hid hx2
  clear b0 b00 hx1 hx2
  go_wp2_with (first
    | ((with_reducible refine gate_builtin (b := .append) (xs := #[.tmp 22, .tmp 24]) rfl ?_); refine go_stop ?_))
  refine Lib.hid ?_
  refine wpList_appAny rfl (.tmp 22) (.tmp 24) 22 3 (.int .i64 0) 8 rfl Try.underlying22 info3 rfl (w.heap.size + 1) (w.heap.size + 1) (w.alloc (.cells #[.slice A l.length c, .int .i64 most, .bool loose] 24)) _ _ _ rfl HO0 A _ _ rfl HN _ hlen HR0 (Lib.hid (ints_one _ _)) (by omega) (by omega) (by simp) (Nat.le_refl _) HB00 ?_
  intro v1 w1 HO1 HB1 HBW1 hsz1
  have hy0 := (HB1.out.cell (p := ⟨w.heap.size, 0, none⟩) (Nat.lt_succ_self _)).trans Hx0.out
  have hy1 := (HB1.out.cell (p := ⟨w.heap.size, 1, none⟩) (Nat.lt_succ_self _)).trans Hx1.out
  have hy2 := (HB1.out.cell (p := ⟨w.heap.size, 2, none⟩) (Nat.lt_succ_self _)).trans Hx2.out
  rw [Nat.zero_add, List.nil_append] at HO1
  obtain ⟨g1, c1, hv1, hg1, _, hg1'⟩ := own_form HO1.out (by omega)
  subst hv1
  have Hy0 := Lib.hid hy0
  have Hy1 := Lib.hid hy1
  have Hy2 := Lib.hid hy2
  have hw1 : w.heap.size + 1 < w1.heap.size := by simp at hsz1; omega
  have HR1 := Lib.hid (hi.out.rd.below (HB0.out.trans (HB1.out.mono (by omega))))
  have HBw1 := Lib.hid (HB0.out.trans (HB1.out.mono (show w.heap.size ≤ w.heap.size + 1 by omega)))
  clear HO0 HB00 HR0 HBW1 hsz1 hsz0 hx0 Hx0 Hx1 Hx2 HB0
  generalize w.alloc (.cells #[.slice A l.length c, .int .i64 most, .bool loose] 24) = wb at *
  go_wp2_with fail
  refine (new7 (some ⟨g1, 0, none⟩) c1 l most loose w1 (by omega) (Lib.hid (Rd.of_own HO1.out))).mono ?_
  rintro e w2 ⟨hp, HB2, hsz2⟩
  rcases hp with ⟨h0, _⟩ | ⟨_, g, gw, sl, rfl, hgw, HC⟩
  · exact absurd HE.out h0
  have HO2 := Lib.hid (own_below HO1.out HB2.out)
  have HBw2 := Lib.hid (HBw1.out.trans (HB2.out.mono (show w.heap.size ≤ w1.heap.size by omega)))
  clear hy0 hy1 hy2 HB1 HO1
  have Hy0 := Lib.hid ((HB2.out.cell (p := ⟨w.heap.size, 0, none⟩) (show w.heap.size < w1.heap.size by omega)).trans Hy0.out)
  have Hy1 := Lib.hid ((HB2.out.cell (p := ⟨w.heap.size, 1, none⟩) (show w.heap.size < w1.heap.size by omega)).trans Hy1.out)
  have Hy2 := Lib.hid ((HB2.out.cell (p := ⟨w.heap.size, 2, none⟩) (show w.heap.size < w1.heap.size by omega)).trans Hy2.out)
  rw [← hwl.out] at HC
  generalize hws : (lev l most.toNat).2.1 = ws at *
  generalize (lev l most.toNat).2.2 = so at *
  generalize colF l most.toNat = F at *
  generalize colC l most.toNat = C at *
  generalize colP l most.toNat = P at *
  have Hws := Lib.hid hws
  clear hws
  go_wp2
  go_loopw [10] (fun iv wr => ∃ k : Nat, k ≤ l.length ∧ iv = .int .i64 k ∧ Hid (∃ ys, wr.ownsRow (w.heap.size + 1) 3 1 (.slice (some ⟨g1, 0, none⟩) l.length c1) l.length ys) ∧ Hid (Below (w.heap.size + 1) w2 wr) ∧ Hid (CodeAt wr g gw sl ws.length F C P ws so most)) (fun iv _ => l.length - (intOf iv).toNat)
  case atStart => exact ⟨0, Nat.zero_le _, rfl, Lib.hid ⟨_, HO2.out⟩, Lib.hid (Below.refl _ _), HC⟩
  case round =>
    obtain ⟨k, hk, rfl, HO, HB, HC⟩ := hrel
    by_cases hlt : k < l.length
    · obtain ⟨ys, hys⟩ := HO.out
      have hat := own_at hys k (by rw [own_len hys]; exact hlt)
      have hfz := hys.frozenAt k
      have HS := Lib.hid (hys.stored k (.int .i64 1))
      go_wp2
      exact ⟨⟨k + 1, by omega, by go_num, Lib.hid ⟨_, HS.out.1⟩, Lib.hid (HB.out.setCell (p := ⟨g1, k, none⟩) hg1 _), Lib.hid (HC.out.far (p := ⟨g1, k, none⟩) (show g1 < gw by omega) _)⟩, by simp [intOf]; omega⟩
    · obtain rfl : k = l.length := by omega
      have hz0 := (HB.out.cell (p := ⟨w.heap.size, 0, none⟩) (show w.heap.size < w.heap.size + 1 by omega)).trans Hy0.out
      have hz1 := (HB.out.cell (p := ⟨w.heap.size, 1, none⟩) (show w.heap.size < w.heap.size + 1 by omega)).trans Hy1.out
      have hz2 := (HB.out.cell (p := ⟨w.heap.size, 2, none⟩) (show w.heap.size < w.heap.size + 1 by omega)).trans Hy2.out
      have HBwr := Lib.hid (HBw2.out.trans (HB.out.mono (show w.heap.size ≤ w.heap.size + 1 by omega)))
      have HRr := Lib.hid (hi.out.rd.below HBwr.out)
      have hszr := HB.out.size
      have HCr := Lib.hid HC.out.rd
      have hlw : ws.length ≤ 65536 := by have := hwl.out; omega
      have hlc := hi.out.len2
      clear HC HO HB Hy0 Hy1 Hy2
      go_wp2_with fail
      refine (refnew8 A c l most loose wr (by omega) HRr).mono ?_
      rintro e w3 ⟨hp, HB3, hsz3⟩
      rcases hp with ⟨h0, _⟩ | ⟨_, g', rfl, hg', HW⟩
      · exact absurd HE.out h0
      have HBw3 := Lib.hid (HBwr.out.trans (HB3.out.mono (show w.heap.size ≤ wr.heap.size by omega)))
      have HC3 := Lib.hid (HCr.out.below HB3.out)
      unfold wordsOf at HW
      rw [Hws.out] at HW
      rw [← hwl.out]
      go_wp2_with fail
      refine (names9 w3).mono ?_
      rintro e w4 ⟨rfl, rfl⟩
      go_wp2_with fail
      refine (cost10 A2 c2 cs hlw (by omega) HWD.out (Lib.hid hi.out.bnd2) HC3 (Lib.hid (hi.out.rd2.below HBw3.out))).mono ?_
      rintro e w4 ⟨rfl, rfl⟩
      go_wp2_with fail
      refine (refcost11 w4 g' ws A2 c2 cs hlw (by omega) HWD.out (Lib.hid hi.out.bnd2) HW (Lib.hid (hi.out.rd2.below HBw3.out))).mono ?_
      rintro e w5 ⟨rfl, m, rfl⟩
      generalize costOf ws cs = co at *
      obtain ⟨co1, co2⟩ := co
      have HC := Lib.hid (HC3.out.below (below_drewN (Below.refl w4.heap.size w4) m))
      have HW5 := Lib.hid (WBlk.below HW.out (below_drewN (Below.refl w4.heap.size w4) m))
      have HB5 := Lib.hid (below_drewN HBw3.out m)
      have hs5 : w.heap.size ≤ (w4.drewN m).heap.size := by simp; omega
      generalize w4.drewN m = w5 at *
      go_wp2_with fail
      refine (sym12 HC).mono ?_
      rintro e w' ⟨rfl, rfl⟩
      clear HC3 HW HBw3 HBwr HRr HCr hz0 hz1 hz2
      have HW := HW5
      clear HW5
      go_wp2
      go_loopw [17] (fun iv wr => ∃ j : Nat, j ≤ ws.length + 2 ∧ iv = .int .i64 ((j : Int) - 1) ∧ Hid (Below w'.heap.size w' wr) ∧ w'.heap.size ≤ wr.heap.size) (fun iv _ => ((ws.length : Int) + 1 - intOf iv).toNat)
      case atStart => exact ⟨0, by omega, rfl, Lib.hid (Below.refl _ _), Nat.le_refl _⟩
      case round =>
        obtain ⟨j, hj, rfl, HB, hszr⟩ := hrel
        by_cases hj2 : j ≤ ws.length + 1
        · cases j with
          | zero =>
            by_cases hh : hasB ws far = true
            · obtain ⟨k, rfl, hk, hkw⟩ := has_word HWD.out far hh
              go_wp2_with fail
              refine (word13 (k : Int) (Lib.hid (HC.out.below HB.out))).mono ?_
              rintro e w6 ⟨rfl, HB6, hsz6⟩
              have HBB := Lib.hid (HB.out.trans (HB6.out.mono hszr))
              rw [hkw]
              obtain ⟨hd1, hd2⟩ := (WBlk.below HW.out HBB.out).at_ k hk
              clear hkw
              generalize ws.getD k (0, 0) = x at *
              go_wp2_with fail
              refine (has14 w6 g' ws (k : Int) (Lib.hid (WBlk.below HW.out HBB.out))).mono ?_
              rintro e w7 ⟨rfl, rfl⟩
              rw [hh]
              clear hh
              go_wp2
              exact ⟨⟨1, by omega, by go_num, HBB, by omega⟩, by simp [intOf]; omega⟩
            · have hh' : hasB ws far = false := by simpa using hh
              have hkw := hasnt_word HWD.out far hh'
              clear hh
              go_wp2_with fail
              refine (word13 far (Lib.hid (HC.out.below HB.out))).mono ?_
              rintro e w6 ⟨rfl, HB6, hsz6⟩
              have HBB := Lib.hid (HB.out.trans (HB6.out.mono hszr))
              rw [hkw]
              clear hkw
              go_wp2_with fail
              refine (has14 w6 g' ws far (Lib.hid (WBlk.below HW.out HBB.out))).mono ?_
              rintro e w7 ⟨rfl, rfl⟩
              rw [hh']
              clear hh'
              go_wp2
              exact ⟨⟨1, by omega, by go_num, HBB, by omega⟩, by simp [intOf]; omega⟩
          | succ k =>
            have hjk : (((k + 1 : Nat) : Int) - 1) = (k : Int) := by omega
            rw [hjk]
            have hjj : ¬ ((k : Int) = -1) := by omega
            by_cases hh : hasB ws (k : Int) = true
            · obtain ⟨hk, hkw⟩ := has_nat HWD.out k hh
              go_wp2_with fail
              refine (word13 (k : Int) (Lib.hid (HC.out.below HB.out))).mono ?_
              rintro e w6 ⟨rfl, HB6, hsz6⟩
              have HBB := Lib.hid (HB.out.trans (HB6.out.mono hszr))
              rw [hkw]
              obtain ⟨hd1, hd2⟩ := (WBlk.below HW.out HBB.out).at_ k hk
              clear hkw
              generalize ws.getD k (0, 0) = x at *
              go_wp2_with fail
              refine (has14 w6 g' ws (k : Int) (Lib.hid (WBlk.below HW.out HBB.out))).mono ?_
              rintro e w7 ⟨rfl, rfl⟩
              rw [hh]
              clear hh
              go_wp2
              exact ⟨⟨k + 2, by omega, by go_num, HBB, by omega⟩, by simp [intOf]; omega⟩
            · have hh' : hasB ws (k : Int) = false := by simpa using hh
              have hkw := hasnt_word HWD.out (k : Int) hh'
              clear hh
              go_wp2_with fail
              refine (word13 (k : Int) (Lib.hid (HC.out.below HB.out))).mono ?_
              rintro e w6 ⟨rfl, HB6, hsz6⟩
              have HBB := Lib.hid (HB.out.trans (HB6.out.mono hszr))
              rw [hkw]
              clear hkw
              go_wp2_with fail
              refine (has14 w6 g' ws (k : Int) (Lib.hid (WBlk.below HW.out HBB.out))).mono ?_
              rintro e w7 ⟨rfl, rfl⟩
              rw [hh']
              clear hh'
              go_wp2
              exact ⟨⟨k + 2, by omega, by go_num, HBB, by omega⟩, by simp [intOf]; omega⟩
        · obtain rfl : j = ws.length + 2 := by omega
          go_wp2
          go_ret
          exact ⟨rfl, HB5.out.trans (HB.out.mono (by omega))⟩
theorem makes3 (A : Option Addr) (c : Nat) (l : List Int) (most : Int) (loose : Bool) (A2 : Option Addr) (c2 : Nat) (cs : List Int) (far : Int) (w : World) (hi : Hid (MakesIn w A c l A2 c2 cs)) :
    Calls Try.prog 3 #[.agg #[.slice A l.length c, .int .i64 most, .bool loose], .slice A2 cs.length c2, .int .i64 far] w fun e w' => e = .returned (.bool true) ∧ Below w.heap.size w w' := by
  by_cases h : newErr l most loose = 0
  · exact makes_ok A c l most loose A2 c2 cs far w hi h
  · exact makes_bad A c l most loose A2 c2 cs far w hi h
end Go.Proofs.Ytejieakikboedaa
