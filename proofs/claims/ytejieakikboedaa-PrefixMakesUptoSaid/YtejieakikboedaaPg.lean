/- The walk of the statement PrefixMakes. -/
import Derived.Test.YtejieakikboedaaPf
namespace Go.Proofs.Ytejieakikboedaa
open Go.RowKit Go.Proofs.YtejieakikboedaaK
set_option linter.unusedVariables false
set_option linter.unusedSimpArgs false
theorem length_ints (l : List Int) (k : IntKind) : (l.map (Value.int k)).length = l.length := List.length_map ..
/-- What PrefixMakes' walk wants of what came in. -/
structure MakesIn (w : World) (A : Option Addr) (c : Nat) (l : List Int) (A2 : Option Addr) (c2 : Nat) (cs : List Int) : Prop where
  len : l.length ≤ 1100000
  nil : A = none → c = 0
  rd : Rd w A (l.map (Value.int .i64))
  len2 : cs.length ≤ 1100000
  rd2 : Rd w A2 (cs.map (Value.int .i64))
  bnd2 : ∀ x ∈ cs, x ≤ 9223372036854775807
set_option maxHeartbeats 2000000 in
set_option maxRecDepth 100000 in
theorem makes_bad (A : Option Addr) (c : Nat) (l : List Int) (most : Int) (loose : Bool) (A2 : Option Addr) (c2 : Nat) (cs : List Int) (far : Int) (w : World) (hi : Hid (MakesIn w A c l A2 c2 cs)) (hne : newErr l most loose ≠ 0) :
    Calls Try.prog 3 #[.agg #[.slice A l.length c, .int .i64 most, .bool loose], .slice A2 cs.length c2, .int .i64 far] w fun e w' => e = .returned (.bool true) ∧ Below w.heap.size w w' := by
  have b0 : Below w.heap.size w (w.alloc (.cells #[.slice A l.length c, .int .i64 most, .bool loose] 24)) := (Below.refl _ _).alloc (Nat.le_refl _) _
  have b00 : Below (w.heap.size + 1) (w.alloc (.cells #[.slice A l.length c, .int .i64 most, .bool loose] 24)) ((w.alloc (.cells #[.slice A l.length c, .int .i64 most, .bool loose] 24)).alloc (.cells #[] 3)) := (Below.refl _ _).alloc (by simp) _
  have HB0 := Lib.hid b0
  have HB00 := Lib.hid b00
  have HO0 : Hid (((w.alloc (.cells #[.slice A l.length c, .int .i64 most, .bool loose] 24)).alloc (.cells #[] 3)).ownsRow (w.heap.size + 1) 3 1 (.slice (some ⟨w.heap.size + 1, 0, none⟩) 0 0) 0 []) := Lib.hid (by
    have := World.ownsRow_lit (base := w.heap.size + 1) (size := 1) (e := 3) (w.alloc (.cells #[.slice A l.length c, .int .i64 most, .bool loose] 24)) #[] 0 (by simp) (by decide) rfl
    simpa using this)
  have HR0 := Lib.hid ((hi.out.rd.below b0).below (b00.mono (by simp)))
  have HN := Lib.hid hi.out.nil
  have hlen := Lib.hid (length_ints l .i64)
  have hl := hi.out.len
  have hx0 : (w.alloc (.cells #[.slice A l.length c, .int .i64 most, .bool loose] 24)).cell? ⟨w.heap.size, 0, none⟩ = some (.slice A l.length c) := by simp [World.cell?_alloc_new]
  have hx1 : (w.alloc (.cells #[.slice A l.length c, .int .i64 most, .bool loose] 24)).cell? ⟨w.heap.size, 1, none⟩ = some (.int .i64 most) := by simp [World.cell?_alloc_new]
  have hx2 : (w.alloc (.cells #[.slice A l.length c, .int .i64 most, .bool loose] 24)).cell? ⟨w.heap.size, 2, none⟩ = some (.bool loose) := by simp [World.cell?_alloc_new]
  have hsz0 : (w.alloc (.cells #[.slice A l.length c, .int .i64 most, .bool loose] 24)).heap.size = w.heap.size + 1 := by simp
  go_enter Try.func3, Try.ntmps3
  have Hx0 := Lib.hid hx0
  have Hx1 := Lib.hid hx1
  have Hx2 := Lib.hid hx2
  clear b0 b00 hx1 hx2
  go_wp2_with (first
    | ((with_reducible refine gate_builtin (b := .append) (xs := #[.tmp 22, .tmp 24]) rfl ?_); refine go_stop ?_))
  refine Lib.hid ?_
  refine wpList_appAny rfl (.tmp 22) (.tmp 24) 22 3 (.int .i64 0) 8 rfl Try.underlying22 info3 rfl (w.heap.size + 1) (w.heap.size + 1) (w.alloc (.cells #[.slice A l.length c, .int .i64 most, .bool loose] 24)) _ _ _ rfl HO0 A _ _ rfl HN _ hlen HR0 (Lib.hid (ints_one _ _)) (by omega) (by omega) (by simp) (Nat.le_refl _) HB00 ?_
  intro v1 w1 HO1 HB1 HBW1 hsz1
  have hy0 := (HB1.out.cell (p := ⟨w.heap.size, 0, none⟩) (Nat.lt_succ_self _)).trans Hx0.out
  have hy1 := (HB1.out.cell (p := ⟨w.heap.size, 1, none⟩) (Nat.lt_succ_self _)).trans Hx1.out
  have hy2 := (HB1.out.cell (p := ⟨w.heap.size, 2, none⟩) (Nat.lt_succ_self _)).trans Hx2.out
  rw [Nat.zero_add, List.nil_append] at HO1
  obtain ⟨A1, c1, hv1, hc1⟩ := own_slice HO1.out
  subst hv1
  have Hy0 := Lib.hid hy0
  have Hy1 := Lib.hid hy1
  have Hy2 := Lib.hid hy2
  have hw1 : w.heap.size + 1 < w1.heap.size := by simp at hsz1; omega
  have HR1 := Lib.hid (hi.out.rd.below (HB0.out.trans (HB1.out.mono (by omega))))
  have HBw1 := Lib.hid (HB0.out.trans (HB1.out.mono (show w.heap.size ≤ w.heap.size + 1 by omega)))
  clear HO0 HB00 HR0 HBW1 hsz1 hsz0 hx0 Hx0 Hx1 Hx2 HB0
  generalize w.alloc (.cells #[.slice A l.length c, .int .i64 most, .bool loose] 24) = wb at *
  go_wp2_with fail
  refine (new7 A1 c1 l most loose w1 (by omega) (Lib.hid (Rd.of_own HO1.out))).mono ?_
  rintro e w2 ⟨hp, HB2, hsz2⟩
  rcases hp with ⟨_, rfl⟩ | ⟨h0, _⟩
  rotate_left
  · exact absurd h0 hne
  obtain ⟨E, hE⟩ : ∃ E, Hid (newErr l most loose = E) := ⟨_, Lib.hid rfl⟩
  rw [hE.out] at hne
  have hEb : (E != 0) = true := by simpa using hne
  have HO2 := Lib.hid (own_below HO1.out HB2.out)
  have HB12 := Lib.hid (HB1.out.trans (HB2.out.mono (show w.heap.size + 1 ≤ w1.heap.size by omega)))
  have HBw2 := Lib.hid (HBw1.out.trans (HB2.out.mono (show w.heap.size ≤ w1.heap.size by omega)))
  have hw2 : w.heap.size + 1 < w2.heap.size := by omega
  clear hy0 hy1 hy2 HB1 HO1
  have Hy0 := Lib.hid ((HB2.out.cell (p := ⟨w.heap.size, 0, none⟩) (show w.heap.size < w1.heap.size by omega)).trans Hy0.out)
  have Hy1 := Lib.hid ((HB2.out.cell (p := ⟨w.heap.size, 1, none⟩) (show w.heap.size < w1.heap.size by omega)).trans Hy1.out)
  have Hy2 := Lib.hid ((HB2.out.cell (p := ⟨w.heap.size, 2, none⟩) (show w.heap.size < w1.heap.size by omega)).trans Hy2.out)
  rw [hE.out]
  go_wp2
  go_loopw [10] (fun iv wr => ∃ k : Nat, k ≤ l.length ∧ iv = .int .i64 k ∧ Hid (∃ ys, wr.ownsRow (w.heap.size + 1) 3 1 (.slice A1 l.length c1) l.length ys) ∧ Hid (Below (w.heap.size + 1) w2 wr)) (fun iv _ => l.length - (intOf iv).toNat)
  case atStart => exact ⟨0, Nat.zero_le _, rfl, Lib.hid ⟨_, HO2.out⟩, Lib.hid (Below.refl _ _)⟩
  case round =>
    obtain ⟨k, hk, rfl, HO, HB⟩ := hrel
    by_cases hlt : k < l.length
    · obtain ⟨ys, hys⟩ := HO.out
      obtain ⟨g1, c1', hv, hg1, _, _⟩ := own_form hys (by omega)
      injection hv with hA _ hc2
      subst hA
      have hat := own_at hys k (by rw [own_len hys]; exact hlt)
      have hfz := hys.frozenAt k
      have HS := Lib.hid (hys.stored k (.int .i64 1))
      go_wp2
      exact ⟨⟨k + 1, by omega, by go_num, Lib.hid ⟨_, HS.out.1⟩, Lib.hid (HB.out.setCell (p := ⟨g1, k, none⟩) hg1 _)⟩, by simp [intOf]; omega⟩
    · obtain rfl : k = l.length := by omega
      have hz0 := (HB.out.cell (p := ⟨w.heap.size, 0, none⟩) (show w.heap.size < w.heap.size + 1 by omega)).trans Hy0.out
      have hz1 := (HB.out.cell (p := ⟨w.heap.size, 1, none⟩) (show w.heap.size < w.heap.size + 1 by omega)).trans Hy1.out
      have hz2 := (HB.out.cell (p := ⟨w.heap.size, 2, none⟩) (show w.heap.size < w.heap.size + 1 by omega)).trans Hy2.out
      have HBwr := Lib.hid (HBw2.out.trans (HB.out.mono (show w.heap.size ≤ w.heap.size + 1 by omega)))
      have HRr := Lib.hid (hi.out.rd.below HBwr.out)
      have hszr := HB.out.size
      go_wp2_with fail
      refine (refnew8 A c l most loose wr (by omega) HRr).mono ?_
      rintro e w3 ⟨hp, HB3, hsz3⟩
      rcases hp with ⟨_, rfl⟩ | ⟨h0, _⟩
      rotate_left
      · exact absurd (hE.out.symm.trans h0) hne
      rw [hE.out]
      have HBw3 := Lib.hid (HBwr.out.trans (HB3.out.mono (show w.heap.size ≤ wr.heap.size by omega)))
      go_wp2_with fail
      refine (names9 w3).mono ?_
      rintro e w4 ⟨rfl, rfl⟩
      go_wp2
      go_ret
      exact ⟨rfl, HBw3.out⟩
end Go.Proofs.Ytejieakikboedaa
