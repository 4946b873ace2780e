/- The contracts of Code.none, Symbols, Word and the reference's Has, over the seat's program. -/
import Derived.Test.YtejieakikboedaaPd
import Derived.BigQuiet
namespace Go.Proofs.Ytejieakikboedaa
open Go.RowKit Go.Proofs.YtejieakikboedaaK
set_option linter.unusedVariables false
set_option linter.unusedSimpArgs false
/-- A code as one who reads it finds it. -/
structure CodeRd (w : World) (g gw : Nat) (sl : Value) (n : Nat) (F C P : Nat → Int) (ws : List (Int × Int)) (so : List Int) (most : Int) : Prop where
  blk : w.heap[g]? = some (.cells (codeC (.slice (some ⟨gw, 0, none⟩) n n) F C P sl most).toArray 54 (0, 0))
  wds : WBlk 72 w gw ws
  srt : ∃ A c, sl = .slice A so.length c ∧ Rd w A (so.map (Value.int .i64))
theorem lt_of_blk {w : World} {g : Nat} {o : Obj} (h : w.heap[g]? = some o) : g < w.heap.size := by
  rcases Nat.lt_or_ge g w.heap.size with h1 | h1
  · exact h1
  · rw [Array.getElem?_eq_none h1] at h; cases h
theorem CodeAt.rd {w : World} {g gw n : Nat} {sl : Value} {F C P : Nat → Int} {ws : List (Int × Int)} {so : List Int} {most : Int} (h : CodeAt w g gw sl n F C P ws so most) : CodeRd w g gw sl n F C P ws so most := by
  obtain ⟨A, c, rfl, hc⟩ := own_slice h.srt
  exact ⟨h.blk, h.wds, A, c, rfl, Rd.of_own h.srt⟩
theorem WBlk.below {e : TypeId} {w w1 : World} {g : Nat} {ws : List (Int × Int)} (h : WBlk e w g ws) (hb : Below w.heap.size w w1) : WBlk e w1 g ws := (hb.block g (lt_of_blk h)).trans h
theorem CodeRd.below {w w1 : World} {g gw n : Nat} {sl : Value} {F C P : Nat → Int} {ws : List (Int × Int)} {so : List Int} {most : Int} (h : CodeRd w g gw sl n F C P ws so most) (hb : Below w.heap.size w w1) : CodeRd w1 g gw sl n F C P ws so most := by
  obtain ⟨A, c, hs, hr⟩ := h.srt
  exact ⟨(hb.block g (lt_of_blk h.blk)).trans h.blk, WBlk.below h.wds hb, A, c, hs, hr.below hb⟩
theorem none29 {w : World} {g gw n : Nat} {sl : Value} {F C P : Nat → Int} {ws : List (Int × Int)} {so : List Int} {most : Int} (h : Hid (CodeRd w g gw sl n F C P ws so most)) :
    Calls Try.prog 29 #[.pointer (some ⟨g, 0, none⟩)] w (fun e w' => e = .returned (.bool false) ∧ w' = w) := by
  have h0 := blk_at h.out.blk 0
  rw [code_0] at h0
  have hnil : ∀ W : World, Sem.run Try.prog (binOp .eql 50 (.slice (some ⟨gw, 0, none⟩) n n) (.slice none 0 0)) W = .ok (.bool false) W := fun W => by kernel_rfl
  go_enter Try.func29, Try.ntmps29
  go_wp2
  go_ret
  exact ⟨rfl, rfl⟩
theorem none29n (w : World) :
    Calls Try.prog 29 #[.pointer none] w (fun e w' => e = .returned (.bool true) ∧ w' = w) := by
  go_enter Try.func29, Try.ntmps29
  go_wp2
  go_ret
  exact ⟨rfl, rfl⟩
theorem sym12 {w : World} {g gw n : Nat} {sl : Value} {F C P : Nat → Int} {ws : List (Int × Int)} {so : List Int} {most : Int} (h : Hid (CodeRd w g gw sl n F C P ws so most)) :
    Calls Try.prog 12 #[.pointer (some ⟨g, 0, none⟩)] w (fun e w' => e = .returned (.int .i64 n) ∧ w' = w) := by
  have h0 := blk_at h.out.blk 0
  rw [code_0] at h0
  go_enter Try.func12, Try.ntmps12
  go_wp2_with fail
  refine (none29 h).mono ?_
  rintro e w' ⟨rfl, rfl⟩
  go_wp2
  go_ret
  exact ⟨rfl, rfl⟩
theorem sym12n (w : World) :
    Calls Try.prog 12 #[.pointer none] w (fun e w' => e = .returned (.int .i64 0) ∧ w' = w) := by
  go_enter Try.func12, Try.ntmps12
  go_wp2_with fail
  refine (none29n w).mono ?_
  rintro e w' ⟨rfl, rfl⟩
  go_wp2
  go_ret
  exact ⟨rfl, rfl⟩
def hasB (ws : List (Int × Int)) (s : Int) : Bool := decide (0 ≤ s) && decide (s < ws.length) && decide (0 < (ws.getD s.toNat (0, 0)).2)
theorem has14 (w : World) (g : Nat) (ws : List (Int × Int)) (s : Int) (h : Hid (WBlk 43 w g ws)) :
    Calls Try.prog 14 #[.slice (some ⟨g, 0, none⟩) ws.length ws.length, .int .i64 s] w (fun e w' => e = .returned (.bool (hasB ws s)) ∧ w' = w) := by
  unfold hasB
  by_cases h0 : 0 ≤ s
  · by_cases h1 : s < ws.length
    · obtain ⟨k, rfl⟩ : ∃ k : Nat, s = k := ⟨s.toNat, by omega⟩
      have hk : k < ws.length := by omega
      obtain ⟨_, hc2⟩ := h.out.at_ k hk
      go_enter Try.func14, Try.ntmps14
      go_wp2
      go_ret
      exact ⟨by simp [hk], rfl⟩
    · go_enter Try.func14, Try.ntmps14
      go_wp2
      go_ret
      exact ⟨by simp [h1], rfl⟩
  · go_enter Try.func14, Try.ntmps14
    go_wp2
    go_ret
    exact ⟨by simp [show ¬ (0 ≤ s) from by omega], rfl⟩
/-- What Word answers. -/
def wordOf (ws : List (Int × Int)) (s : Int) : Int × Int × Int := if s < 0 ∨ (ws.length : Int) ≤ s ∨ ws.getD s.toNat (0, 0) = (0, 0) then (0, 0, 2) else ((ws.getD s.toNat (0, 0)).1, (ws.getD s.toNat (0, 0)).2, 0)
def WordPost (w : World) (t : Int × Int × Int) (e : Ending) (w' : World) : Prop := e = .returned (.tuple #[.int .u32 t.1, .int .i64 t.2.1, .int .i64 t.2.2]) ∧ Hid (Below w.heap.size w w') ∧ w.heap.size ≤ w'.heap.size
theorem word13n (w : World) (s : Int) : Calls Try.prog 13 #[.pointer none, .int .i64 s] w (WordPost w (0, 0, 1)) := by
  go_enter Try.func13, Try.ntmps13
  go_wp2_with fail
  refine (none29n w).mono ?_
  rintro e w' ⟨rfl, rfl⟩
  go_wp2
  go_ret3
  exact ⟨rfl, Lib.hid (Below.refl _ _), Nat.le_refl _⟩
theorem word13 {w : World} {g gw : Nat} {sl : Value} {F C P : Nat → Int} {ws : List (Int × Int)} {so : List Int} {most : Int} (s : Int) (h : Hid (CodeRd w g gw sl ws.length F C P ws so most)) :
    Calls Try.prog 13 #[.pointer (some ⟨g, 0, none⟩), .int .i64 s] w (WordPost w (wordOf ws s)) := by
  have h0 := blk_at h.out.blk 0
  rw [code_0] at h0
  by_cases h1 : s < 0
  · have he : Hid (wordOf ws s = (0, 0, 2)) := Lib.hid (if_pos (.inl h1))
    go_enter Try.func13, Try.ntmps13
    go_wp2_with fail
    refine (none29 h).mono ?_
    rintro e w' ⟨rfl, rfl⟩
    go_wp2
    go_ret3
    rw [he.out]
    exact ⟨rfl, Lib.hid (Below.refl _ _), Nat.le_refl _⟩
  obtain ⟨k, rfl⟩ : ∃ k : Nat, s = k := ⟨s.toNat, by omega⟩
  by_cases h2 : (ws.length : Int) ≤ k
  · have he : Hid (wordOf ws k = (0, 0, 2)) := Lib.hid (if_pos (.inr (.inl h2)))
    go_enter Try.func13, Try.ntmps13
    go_wp2_with fail
    refine (none29 h).mono ?_
    rintro e w' ⟨rfl, rfl⟩
    go_wp2
    go_ret3
    rw [he.out]
    exact ⟨rfl, Lib.hid (Below.refl _ _), Nat.le_refl _⟩
  have hk : k < ws.length := by omega
  obtain ⟨hc1, hc2⟩ := h.out.wds.at_ k hk
  generalize hx : ws.getD k (0, 0) = x at *
  obtain ⟨x1, x2⟩ := x
  by_cases hz : x1 = 0 ∧ x2 = 0
  · have he : Hid (wordOf ws k = (0, 0, 2)) := Lib.hid (if_pos (.inr (.inr (by rw [Int.toNat_natCast, hx, hz.1, hz.2]))))
    obtain ⟨rfl, rfl⟩ := hz
    clear hx
    go_enter Try.func13, Try.ntmps13
    go_wp2_with fail
    refine (none29 h).mono ?_
    rintro e w' ⟨rfl, rfl⟩
    go_wp2
    go_ret3
    rw [he.out]
    exact ⟨rfl, Lib.hid (Below.refl _ _), Nat.le_refl _⟩
  · have he : Hid (wordOf ws k = (x1, x2, 0)) := Lib.hid (by
      unfold wordOf
      rw [if_neg, Int.toNat_natCast, hx]
      rintro (h | h | h)
      · omega
      · omega
      · rw [Int.toNat_natCast, hx] at h
        simp only [Prod.mk.injEq] at h
        exact hz h)
    clear hx
    by_cases hz1 : x1 = 0
    · have hz2 : ¬ x2 = 0 := fun h => hz ⟨hz1, h⟩
      subst hz1
      clear hz
      go_enter Try.func13, Try.ntmps13
      go_wp2_with fail
      refine (none29 h).mono ?_
      rintro e w' ⟨rfl, rfl⟩
      go_wp2
      go_region
      go_wp2
      go_ret3
      rw [he.out]
      exact ⟨rfl, Lib.hid (below_drew ((Below.refl w'.heap.size w').alloc (Nat.le_refl _) _)), by simp⟩
    · clear hz
      go_enter Try.func13, Try.ntmps13
      go_wp2_with fail
      refine (none29 h).mono ?_
      rintro e w' ⟨rfl, rfl⟩
      go_wp2
      go_region
      go_wp2
      go_ret3
      rw [he.out]
      exact ⟨rfl, Lib.hid (below_drew ((Below.refl w'.heap.size w').alloc (Nat.le_refl _) _)), by simp⟩
end Go.Proofs.Ytejieakikboedaa
