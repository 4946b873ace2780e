/- The contract of bytes.Repeat at a slice of one byte, up to 255 times, over the seat's program. -/
import Derived.Test.YtcpcnhdjjfehcaaK2
import Derived.Test.YtcpcnhdjjfehcaaSd
import Derived.Lib.MakeNoZero
import Derived.Room.MakeNoZero
namespace Go.Proofs.Ytcpcnhdjjfehcaa
open Go.RowKit Go.Proofs.YtcpcnhdjjfehcaaK
set_option linter.unusedVariables false
set_option linter.unusedSimpArgs false
theorem info5 : (Try.prog.info? 5).map (fun i => (i.zero, i.size, i.bytes)) = some (some (.int .u8 0), 1, 1) := by kernel_rfl
theorem size5 : (Try.prog.info? 5).map (·.size) = some 1 := by kernel_rfl
/-- A slice of bytes is handed back that reads so; what was there stands. -/
def ReadB (w : World) (l : List Int) (e : Ending) (w' : World) : Prop := ∃ ad c, e = .returned (.slice (some ad) l.length c) ∧ Hid (Rd w' (some ad) (l.map (Value.int .u8))) ∧ Hid (Below w.heap.size w w') ∧ w.heap.size ≤ w'.heap.size
def repT (t : List Value) (n : Nat) (x : Int) : List Value := List.replicate n (.int .u8 x) ++ t.drop n
theorem splice_firstT (t : List Value) (x : Int) : splice t 0 [.int .u8 x] = repT t 1 x := by
  simp [splice, repT]
theorem src_repT {w : World} {g n m : Nat} {t : List Value} {x : Int} (h : w.heap[g]? = some (.cells (repT t n x).toArray 5 (0, 0))) : ∀ j v, (List.replicate (min n m) (Value.int .u8 x))[j]? = some v → w.drew.cell? ((⟨g, 0, none⟩ : Addr).add j) = some v := by
  intro j v hv
  have hj : j < min n m := by have := (List.getElem?_eq_some_iff.1 hv).1; simpa using this
  rw [List.getElem?_replicate, if_pos hj] at hv
  rw [add_zero_off]
  show w.cell? ⟨g, j, none⟩ = some v
  rw [blk_at h j, ← hv]
  unfold repT
  rw [List.getElem?_append_left (by simp; omega), List.getElem?_replicate, if_pos (by omega)]
theorem splice_repT (t : List Value) (n : Nat) (x : Int) {m : Nat} : splice (repT t n x) n (List.replicate (min n m) (Value.int .u8 x)) = repT t (n + min n m) x := by
  unfold splice repT
  rw [List.take_append_of_le_length (by simp), List.take_of_length_le (by simp), List.length_replicate, List.drop_append, List.length_replicate]
  rw [List.drop_of_length_le (by simp), List.nil_append, List.drop_drop, ← List.append_assoc, List.replicate_append_replicate]
  congr 2
  omega
set_option maxHeartbeats 1000000 in
set_option maxRecDepth 100000 in
theorem repeat51 (a : Addr) (cap : Nat) (x : Int) (c : Nat) (w : World) (hc : c ≤ 255) (hx : w.cell? a = some (.int .u8 x)) :
    Calls Try.prog 51 #[.slice (some a) 1 cap, .int .i64 c] w (ReadB w (List.replicate c x)) := by
  rcases Nat.eq_zero_or_pos c with h0 | h0
  · subst h0
    go_enter Try.func51, Try.ntmps51
    go_wp2
    go_ret
    exact ⟨_, _, rfl, Lib.hid (Rd.nil _ _), Lib.hid ((Below.refl _ _).alloc (Nat.le_refl _) _), by simp⟩
  · obtain ⟨cs, hrun, hle, hmax⟩ := Lib.run_makeNoZero (P := Try.prog) w #[3] 22 5 Try.underlying22 c (by omega)
    have hcall : (callFunc 84 #[.int .i64 c]).run Try.prog w = .ok (.value (.slice (some ⟨w.heap.size, 0, none⟩) c cs.size)) (w.drew.drew.alloc (.cells cs 5)) := by
      rw [run_callFunc_extern Try.func84 (by kernel_rfl) (by kernel_rfl) (by kernel_rfl) (e := Extern.BytealgMakeNoZero.makeNoZero #[3] #[22]) (by kernel_rfl), hrun]
      rfl
    have hmx := hmax (by unfold maxLen; omega)
    have HX := Lib.hid hx
    clear hrun hmax hx
    go_enter Try.func51, Try.ntmps51
    go_wp2_with fail
    refine (mul77 c (by omega) (by omega) _).mono ?_
    rintro e w' ⟨rfl, rfl⟩
    have hmin : Hid ([Value.int .u8 x].length = Nat.min 1 c) := Lib.hid (Nat.min_eq_left (show 1 ≤ c from h0)).symm
    have hfit : Hid (0 + [Value.int .u8 x].length ≤ cs.toList.length) := Lib.hid (by simp; omega)
    have HG0 : Hid ((w'.alloc (Obj.cells cs 5)).drew.drew.heap[w'.heap.size]? = some (.cells cs.toList.toArray 5 (0, 0))) := Lib.hid (by rw [Array.toArray_toList]; exact heap_alloc_new w' _)
    have HB0 : Hid (Below w'.heap.size w' (w'.alloc (Obj.cells cs 5)).drew.drew) := Lib.hid (below_drew (below_drew ((Below.refl _ _).alloc (Nat.le_refl _) _)))
    have hlen : Hid (c ≤ cs.toList.length) := Lib.hid (by simpa using hle)
    go_wp2_with (with_reducible (refine gate_builtin (b := .copy) (xs := #[.tmp 58, .tmp 59]) rfl ?_); refine wpList_copy_splice rfl (.tmp 58) (.tmp 59) 22 22 rfl 5 Try.underlying22 size5 _ _ _ _ _ _ rfl rfl w'.heap.size 0 cs.toList 5 HG0.out [.int .u8 x] hmin.out (fun _ => ⟨rfl, a, rfl, one_at HX.out HB0.out⟩) hfit.out (by simp [Value.oneCell']) w'.heap.size w' HB0.out (Nat.le_refl _) ?_; intro w2 HH2 hb2; have HB2 := Lib.hid hb2; clear hb2)
    have HH3 := Lib.hid (HH2.out.trans (congrArg (fun l : List Value => some (Obj.cells l.toArray 5 (0, 0))) (splice_firstT cs.toList x)))
    have HG3 : w'.heap.size < w2.heap.size := (Array.getElem?_eq_some_iff.1 HH3.out).1
    generalize cs.toList = t at HH3 hlen
    clear HH2 HG0 HB0 hmin hfit hle hmx hcall
    go_loopw [10] (fun v wr => ∃ n : Nat, 1 ≤ n ∧ n ≤ c ∧ v = .int .i64 n ∧ Hid (wr.heap[w'.heap.size]? = some (.cells (repT t n x).toArray 5 (0, 0))) ∧ Hid (Below w'.heap.size w' wr) ∧ w'.heap.size < wr.heap.size) (fun v _ => c - (intOf v).toNat)
    case atStart => exact ⟨1, Nat.le_refl _, h0, rfl, HH3, HB2, HG3⟩
    case round =>
      obtain ⟨n, hn1, hn2, rfl, HC, HB4, hsz4⟩ := hrel
      by_cases hlt : n < c
      · have hcn : ¬ c = n := by omega
        have hl : Hid ((List.replicate (min n (c - n)) (Value.int .u8 x)).length = Nat.min n (c - n)) := Lib.hid (List.length_replicate ..)
        have hfit : Hid (n + (List.replicate (min n (c - n)) (Value.int .u8 x)).length ≤ (repT t n x).length) := Lib.hid (by rw [List.length_replicate]; have := hlen.out; simp [repT]; omega)
        have hsrc : Hid (∀ j v, (List.replicate (min n (c - n)) (Value.int .u8 x))[j]? = some v → wr.drew.cell? ((⟨w'.heap.size, 0, none⟩ : Addr).add j) = some v) := Lib.hid (src_repT HC.out)
        have hcop : Hid (splice (repT t n x) n (List.replicate (min n (c - n)) (Value.int .u8 x)) = repT t (n + min n (c - n)) x) := Lib.hid (splice_repT t n x)
        have hone : Hid (∀ v ∈ List.replicate (min n (c - n)) (Value.int .u8 x), v.oneCell' = true) := Lib.hid (by intro v hv; rw [List.eq_of_mem_replicate hv]; rfl)
        have hmn : min (n : Int) (c : Int) = n := by omega
        go_wp2
        go_region_law (
          refine step_copy_splice rfl (.tmp 70) (.tmp 73) 22 22 rfl 5 Try.underlying22 size5 (some ⟨w'.heap.size, n, none⟩) (some ⟨w'.heap.size, 0, none⟩) (c - n) (c - n) n c ?_ ?_ w'.heap.size n (repT t n x) 5 HC.out (List.replicate (min n (c - n)) (.int .u8 x)) hl.out (fun _ => ⟨rfl, _, rfl, hsrc.out⟩) hfit.out hone.out w'.heap.size w' (below_drew HB4.out) (Nat.le_refl _) ?_
          · simp [Act.eval, Act.put, hcn]
          · simp [Act.eval, Act.put]
          intro w4 hg4 hb4; have HB5 := Lib.hid hb4; have HG5 := Lib.hid hg4; clear hb4 hg4)
        go_simp
        rw [show IntKind.i64.wrap (↑n + ↑(min n (c - n))) = ((n + min n (c - n) : Nat) : Int) from by rw [IntWalk.i64_in _ (by omega)]; omega]
        go_wp2
        go_roundw
        case rel =>
          refine ⟨n + min n (c - n), by omega, by omega, rfl, Lib.hid ?_, HB5, ?_⟩
          · have := HG5.out
            rw [hcop.out] at this
            exact this.out
          · exact (Array.getElem?_eq_some_iff.1 HG5.out.out).1
        case measure => simp [intOf]; omega
      · obtain rfl : n = c := by omega
        go_wp2
        go_ret
        refine ⟨⟨w'.heap.size, 0, none⟩, n, ?_, Lib.hid ?_, HB4, by omega⟩
        · rw [List.length_replicate]
          rfl
        · intro i u hu
          refine ⟨_, rfl, ?_⟩
          rw [add_zero_off, blk_at HC.out]
          unfold repT
          have hi := (List.getElem?_eq_some_iff.1 hu).1
          rw [List.length_map, List.length_replicate] at hi
          rw [List.getElem?_append_left (by simpa using hi), ← hu]
          simp
theorem repeat51i (a : Addr) (cap : Nat) (x c : Int) (w : World) (h0 : 0 ≤ c) (hc : c ≤ 255) (hx : w.cell? a = some (.int .u8 x)) :
    Calls Try.prog 51 #[.slice (some a) 1 cap, .int .i64 c] w (ReadB w (List.replicate c.toNat x)) := by
  obtain ⟨n, rfl⟩ := Int.eq_ofNat_of_zero_le h0
  exact repeat51 a cap x n w (by omega) hx
end Go.Proofs.Ytcpcnhdjjfehcaa
