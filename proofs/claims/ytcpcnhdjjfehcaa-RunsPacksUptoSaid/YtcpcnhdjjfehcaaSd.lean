/- The contract of slices.Repeat at []int, for one element, over the seat's program. -/
import Derived.Test.YtcpcnhdjjfehcaaSc
import Derived.WalkLawsBesides
namespace Go.Proofs.Ytcpcnhdjjfehcaa
open Go.RowKit Go.Proofs.YtcpcnhdjjfehcaaK
set_option linter.unusedVariables false
set_option linter.unusedSimpArgs false
theorem wraps_u64 (n : Int) (h₀ : 0 ≤ n) (h₁ : n < 2 ^ 64) : IntKind.u64.wrap n = n := by simp [IntKind.wrap, IntKind.bits, IntKind.signed]; omega
theorem and32 (c : Int) (h0 : 0 ≤ c) (h1 : c ≤ 4294967295) : Go.bits .and .u64 c 4294967295 = c := by
  have h := bits_mask .u64 64 (by decide) wraps_u64 32 (by decide) c h0 (by omega)
  have h2 : c % 2 ^ 32 = c := by omega
  rw [h2] at h
  exact h
theorem size3 : (Try.prog.info? 3).map (·.size) = some 1 := by kernel_rfl
theorem one_at {w w1 : World} {a : Addr} {x : Value} (h : w.cell? a = some x) (hb : Below w.heap.size w w1) : ∀ j v, [x][j]? = some v → w1.cell? (a.add j) = some v := by
  intro j v hv
  cases j with
  | zero =>
    simp at hv; subst hv
    have : a.add 0 = a := by simp [Addr.add]
    rw [this]; exact (hb.cell (World.block_lt_of_cell? w a h)).trans h
  | succ j => simp at hv
def repL (c n : Nat) (x : Int) : List Value := List.replicate n (.int .i64 x) ++ List.replicate (c - n) (.int .i64 0)
theorem splice_first (c : Nat) (x : Int) (h : 0 < c) : splice (List.replicate c (Value.int .i64 0)) 0 [.int .i64 x] = repL c 1 x := by
  simp [splice, repL]
theorem repL_len (c n : Nat) (x : Int) (h : n ≤ c) : (repL c n x).length = c := by simp [repL]; omega
theorem src_rep {w : World} {g c n m : Nat} {x : Int} (h : w.heap[g]? = some (.cells (repL c n x).toArray 3 (0, 0))) : ∀ j v, (List.replicate (min n m) (Value.int .i64 x))[j]? = some v → w.drew.cell? ((⟨g, 0, none⟩ : Addr).add j) = some v := by
  intro j v hv
  have hj : j < min n m := by have := (List.getElem?_eq_some_iff.1 hv).1; simpa using this
  rw [List.getElem?_replicate, if_pos hj] at hv
  rw [add_zero_off]
  show w.cell? ⟨g, j, none⟩ = some v
  rw [blk_at h j, ← hv]
  unfold repL
  rw [List.getElem?_append_left (by simp; omega), List.getElem?_replicate, if_pos (by omega)]
theorem splice_rep (c n : Nat) (x : Int) (h : n ≤ c) : splice (repL c n x) n (List.replicate (min n (c - n)) (Value.int .i64 x)) = repL c (n + min n (c - n)) x := by
  unfold splice repL
  rw [List.take_append_of_le_length (by simp), List.take_of_length_le (by simp), List.length_replicate, List.drop_append, List.length_replicate]
  rw [List.drop_of_length_le (by simp), List.nil_append, List.drop_replicate, ← List.append_assoc, List.replicate_append_replicate]
  congr 2
  omega
/-- math/bits.Mul at 1 and a small number. -/
theorem mul77 (c : Int) (h0 : 0 ≤ c) (h1 : c ≤ 65536) (w : World) : Calls Try.prog 77 #[.int .u64 1, .int .u64 c] w fun e w' => e = .returned (.tuple #[.int .u64 0, .int .u64 c]) ∧ w' = w := by
  have e2 := and32 c h0 (by omega)
  have e1 : Go.bits .and .u64 1 4294967295 = 1 := by decide +kernel
  have e3 : c / 4294967296 = 0 := by omega
  have e4 : Go.bits .and .u64 0 4294967295 = 0 := by decide +kernel
  go_enter Try.func77, Try.ntmps77
  go_wp2
  go_ret2
  exact ⟨by simp, rfl⟩
set_option maxHeartbeats 400000 in
set_option maxRecDepth 100000 in
theorem repeat44 (a : Addr) (cap : Nat) (x : Int) (c : Nat) (B : Nat) (w0 w : World) (hc0 : 0 < c) (hc : c ≤ 65536) (hx : w.cell? a = some (.int .i64 x)) (hB : B ≤ w.heap.size) (hb : Below B w0 w) :
    Calls Try.prog 44 #[.slice (some a) 1 cap, .int .i64 c] w (Made B w0 w (List.replicate c x)) := by
  have HB := Lib.hid hb
  have HX := Lib.hid hx
  clear hb hx
  go_enter Try.func44, Try.ntmps44
  go_wp2_with fail
  refine (mul77 c (by omega) (by omega) _).mono ?_
  rintro e w' ⟨rfl, rfl⟩
  have hmin : Hid ([Value.int .i64 x].length = Nat.min 1 c) := Lib.hid (Nat.min_eq_left (show 1 ≤ c from hc0)).symm
  have hfit : Hid (0 + [Value.int .i64 x].length ≤ (List.replicate c (Value.int .i64 0)).length) := Lib.hid (by rw [List.length_replicate]; exact hc0)
  go_wp2_with (first
    | (at_make; refine wpList_make1 rfl (.tmp 29) (.tmp 29) 23 3 (.int .i64 0) 8 rfl Try.underlying23 info3 rfl .i64 .i64 _ _ c rfl rfl rfl rfl (by omega) (by omega) B w0 hB HB ?_; intro w1 HH HB1 hsz1 HBw)
    | (with_reducible (refine gate_builtin (b := .copy) (xs := #[.tmp 31, .tmp 32]) rfl ?_); refine wpList_copy_splice rfl (.tmp 31) (.tmp 32) 23 23 rfl 3 Try.underlying23 size3 _ _ _ _ _ _ rfl rfl w'.heap.size 0 (List.replicate c (.int .i64 0)) 3 HH.out [.int .i64 x] hmin.out (fun _ => ⟨rfl, a, rfl, one_at HX.out HBw.out⟩) hfit.out (by simp [Value.oneCell']) B w0 HB1.out hB ?_; intro w2 HH2 hb2; have HB2 := Lib.hid hb2; clear hb2))
  have HH3 := Lib.hid ((HH2.out).trans (congrArg (fun l : List Value => some (Obj.cells l.toArray 3 (0, 0))) (splice_first c x hc0)))
  clear HH HH2 hmin hfit
  have hg3 : w'.heap.size < w2.heap.size := (Array.getElem?_eq_some_iff.1 HH3.out).1
  go_loopw [8] (fun v wr => ∃ n : Nat, 1 ≤ n ∧ n ≤ c ∧ v = .int .i64 n ∧ Hid (wr.heap[w'.heap.size]? = some (.cells (repL c n x).toArray 3 (0, 0))) ∧ Hid (Below B w0 wr) ∧ w'.heap.size < wr.heap.size) (fun v _ => c - (intOf v).toNat)
  case atStart => exact ⟨1, Nat.le_refl _, hc0, rfl, HH3, HB2, hg3⟩
  case round =>
    obtain ⟨n, hn1, hn2, rfl, HC, HB4, hsz4⟩ := hrel
    by_cases hlt : n < c
    · have hcn : ¬ c = n := by omega
      have hl : Hid ((List.replicate (min n (c - n)) (Value.int .i64 x)).length = Nat.min n (c - n)) := Lib.hid (List.length_replicate ..)
      have hfit : Hid (n + (List.replicate (min n (c - n)) (Value.int .i64 x)).length ≤ (repL c n x).length) := Lib.hid (by rw [List.length_replicate, repL_len c n x hn2]; omega)
      have hsrc : Hid (∀ j v, (List.replicate (min n (c - n)) (Value.int .i64 x))[j]? = some v → wr.drew.cell? ((⟨w'.heap.size, 0, none⟩ : Addr).add j) = some v) := Lib.hid (src_rep HC.out)
      have hcop : Hid (splice (repL c n x) n (List.replicate (min n (c - n)) (Value.int .i64 x)) = repL c (n + min n (c - n)) x) := Lib.hid (splice_rep c n x hn2)
      have hone : Hid (∀ v ∈ List.replicate (min n (c - n)) (Value.int .i64 x), v.oneCell' = true) := Lib.hid (by intro v hv; rw [List.eq_of_mem_replicate hv]; rfl)
      go_wp2
      go_region_law (
        go_must (refine step_copy_splice rfl (.tmp 41) (.tmp 44) 23 23 rfl 3 Try.underlying23 size3 (some ⟨w'.heap.size, n, none⟩) (some ⟨w'.heap.size, 0, none⟩) (c - n) (c - n) n c ?_ ?_ w'.heap.size n (repL c n x) 3 HC.out (List.replicate (min n (c - n)) (.int .i64 x)) hl.out (fun _ => ⟨rfl, _, rfl, hsrc.out⟩) hfit.out hone.out B w0 (below_drew HB4.out) hB ?_)
        · simp [Act.eval, Act.put, hcn]
        · simp [Act.eval, Act.put]
        intro w4 hg4 hb4; have HB5 := Lib.hid hb4; have HG5 := Lib.hid hg4; clear hb4 hg4)
      go_simp
      rw [show IntKind.i64.wrap (↑n + ↑(min n (c - n))) = ((n + min n (c - n) : Nat) : Int) from by rw [IntWalk.i64_in _ (by omega)]; omega]
      go_wp2
      go_roundw
      case rel =>
        refine ⟨n + min n (c - n), by omega, by omega, rfl, Lib.hid ?_, HB5, ?_⟩
        · have := HG5.out
          rw [hcop.out] at this
          exact this.out
        · exact (Array.getElem?_eq_some_iff.1 HG5.out.out).1
      case measure => simp [intOf]; omega
    · obtain rfl : n = c := by omega
      go_wp2
      go_ret
      refine ⟨_, rfl, ?_, HB4.out, by omega⟩
      rw [List.length_replicate]
      refine own_of_blk (n := n) (xs := (List.replicate n x).map (Value.int .i64)) ?_ (Nat.le_refl _) (by simp) (by omega)
      have := HC.out
      rwa [show repL n n x = (List.replicate n x).map (Value.int .i64) by simp [repL]] at this
end Go.Proofs.Ytcpcnhdjjfehcaa
