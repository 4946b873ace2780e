/- The contract of prefix.New, over the seat's program. -/
import Derived.Test.YtejieakikboedaaPb
import Derived.Test.YtejieakikboedaaK5
import Derived.BigRegion
namespace Go.Proofs.Ytejieakikboedaa
open Go.RowKit Go.Proofs.YtejieakikboedaaK
set_option linter.unusedVariables false
set_option linter.unusedSimpArgs false
theorem info3 : (Try.prog.info? 3).map (fun i => (i.zero, i.size, i.bytes)) = some (some (.int .i64 0), 1, 8) := by kernel_rfl
/-- The columns of a code behind its first q levels. -/
def colF (ls : List Int) (q : Nat) : Nat → Int := fun i => if 1 ≤ i ∧ i ≤ q then ((lev ls (i - 1)).1 * 2) % 4294967296 else 0
def colP (ls : List Int) (q : Nat) : Nat → Int := fun i => if 1 ≤ i ∧ i ≤ q then ((lev ls (i - 1)).2.2.length : Int) else 0
def colC (ls : List Int) (q : Nat) : Nat → Int := fun i => if 1 ≤ i ∧ i ≤ q then ((lev ls i).2.2.length : Int) - ((lev ls (i - 1)).2.2.length : Int) else 0
/-- A code as it lies: its block g, its words' block gw, its symbols. -/
structure CodeAt (w : World) (g gw : Nat) (sl : Value) (n : Nat) (F C P : Nat → Int) (ws : List (Int × Int)) (so : List Int) (most : Int) : Prop where
  blk : w.heap[g]? = some (.cells (codeC (.slice (some ⟨gw, 0, none⟩) n n) F C P sl most).toArray 54 (0, 0))
  wds : WBlk 72 w gw ws
  srt : w.ownsRow (g + 1) 3 1 sl so.length (so.map (Value.int .i64))
  lt : gw < g
def NewPost (w : World) (ls : List Int) (most : Int) (loose : Bool) (e : Ending) (w' : World) : Prop :=
  (newErr ls most loose ≠ 0 ∧ e = .returned (.tuple #[.pointer none, .int .i64 (newErr ls most loose)]) ∨
    newErr ls most loose = 0 ∧ ∃ g gw sl, e = .returned (.tuple #[.pointer (some ⟨g, 0, none⟩), .int .i64 0]) ∧ w.heap.size ≤ gw ∧
      Hid (CodeAt w' g gw sl ls.length (colF ls most.toNat) (colC ls most.toNat) (colP ls most.toNat) (lev ls most.toNat).2.1 (lev ls most.toNat).2.2 most)) ∧ Hid (Below w.heap.size w w') ∧ w.heap.size ≤ w'.heap.size
set_option maxHeartbeats 2000000 in
set_option maxRecDepth 100000 in
theorem new_bad (A : Option Addr) (c : Nat) (l : List Int) (most : Int) (loose : Bool) (w : World) (hl : l.length ≤ 9223372036854775807) (hr : Hid (Rd w A (l.map (Value.int .i64)))) (hbad : badArg l most = true) :
    Calls Try.prog 7 #[.slice A l.length c, .int .i64 most, .bool loose] w (NewPost w l most loose) := by
  have he : Hid (newErr l most loose = 2) := Lib.hid (by unfold newErr; rw [if_pos hbad])
  have hba := Lib.hid hbad
  clear hbad
  have hb1 := Lib.hid ((Below.refl w.heap.size w).alloc (Nat.le_refl _) (.cells #[.int .i64 most] 3))
  by_cases h1 : most < 1
  · go_enter Try.func7, Try.ntmps7
    go_wp2
    go_ret2
    unfold NewPost
    rw [he.out]
    exact ⟨.inl ⟨by decide, rfl⟩, hb1, by simp⟩
  by_cases h2 : 20 < most
  · go_enter Try.func7, Try.ntmps7
    go_wp2
    go_ret2
    unfold NewPost
    rw [he.out]
    exact ⟨.inl ⟨by decide, rfl⟩, hb1, by simp⟩
  by_cases h3 : l.length < 1
  · go_enter Try.func7, Try.ntmps7
    go_wp2
    go_ret2
    unfold NewPost
    rw [he.out]
    exact ⟨.inl ⟨by decide, rfl⟩, hb1, by simp⟩
  by_cases h4 : 65536 < l.length
  · go_enter Try.func7, Try.ntmps7
    go_wp2
    go_ret2
    unfold NewPost
    rw [he.out]
    exact ⟨.inl ⟨by decide, rfl⟩, hb1, by simp⟩
  have hany : Hid (l.any (oddB most) = true) := Lib.hid (by
    have := hba.out
    unfold badArg at this
    rw [show decide (most < 1) = false by simp; omega, show decide (20 < most) = false by simp; omega, show decide ((l.length : Int) < 1) = false by simp; omega, show decide (65536 < (l.length : Int)) = false by simp; omega] at this
    simpa using this)
  have hr1 := Lib.hid (hr.out.below hb1.out)
  go_enter Try.func7, Try.ntmps7
  go_wp2_with fail
  refine (contains27 A c l most _ _ (by omega) (by simp [World.cell?_alloc_new]) hr1).mono ?_
  rintro e w' ⟨rfl, rfl⟩
  rw [hany.out]
  go_wp2
  go_ret2
  unfold NewPost
  rw [he.out]
  exact ⟨.inl ⟨by decide, rfl⟩, hb1, by simp⟩
end Go.Proofs.Ytejieakikboedaa
