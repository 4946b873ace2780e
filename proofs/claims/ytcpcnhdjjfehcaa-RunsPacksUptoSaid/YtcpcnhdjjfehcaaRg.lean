/- The walk of the statement RunsPacks: at bytes of at most 2^20 places it returns true; what was there stands. -/
import Derived.Test.YtcpcnhdjjfehcaaRf
import Derived.Test.YtcpcnhdjjfehcaaK3
import Derived.Test.YtcpcnhdjjfehcaaArg
namespace Go.Proofs.Ytcpcnhdjjfehcaa
open Go.RowKit Go.Proofs.YtcpcnhdjjfehcaaK
set_option linter.unusedVariables false
set_option linter.unusedSimpArgs false
theorem up_len_le (most : Int) (l : List Int) : ∀ i o k, upStep most l i = some (o, k) → Bytes l → i ≤ l.length → o.length ≤ 255 * i := by
  intro i
  induction i with
  | zero => intro o k h _ _; simp [upStep] at h; obtain ⟨rfl, rfl⟩ := h; simp
  | succ i ih =>
    intro o k h hb hi
    have h' : (upStep most l i).bind _ = some (o, k) := h
    rcases hu : upStep most l i with _ | ⟨o1, k1⟩
    · rw [hu] at h'; cases h'
    · have h1 := ih o1 k1 hu hb (by omega)
      rw [up_succ most l i hu rfl] at h
      have hx := hb.at_ (show i < l.length by omega) rfl
      split at h
      · split at h
        · cases h
        · simp only [Option.some.injEq, Prod.mk.injEq] at h
          obtain ⟨rfl, rfl⟩ := h
          rw [List.length_append, List.length_replicate]
          omega
      · split at h
        · cases h
        · simp only [Option.some.injEq, Prod.mk.injEq] at h
          obtain ⟨rfl, rfl⟩ := h
          simp
          omega
theorem upAll_len (most : Int) (l : List Int) (hb : Bytes l) : (upAll most l).1.length ≤ 255 * l.length := by
  unfold upAll
  split
  · simp
  · split
    · simp
    · rename_i p hp
      split
      · simp
      · exact up_len_le most l _ p.1 p.2 hp hb (Nat.le_refl _)
theorem pack_len (f : Nat) : ∀ l : List Int, l.length ≤ f → (pk f l).length ≤ 2 * l.length := by
  induction f with
  | zero => intro l h; simp [pk]
  | succ f ih =>
    intro l h
    simp only [pk]
    split
    · simp
    · rename_i h0
      have h1 := runLen_all (l := l) (by omega)
      have h2 := runOut_len (l := l) (by omega)
      have h3 := ih (l.drop (runLen l)) (by rw [List.length_drop]; omega)
      rw [List.length_append]
      rw [List.length_drop] at h3
      omega
theorem bytes_rep {x : Int} (h : 0 ≤ x ∧ x ≤ 255) (n : Nat) : Bytes (List.replicate n x) := fun y hy => by rw [List.eq_of_mem_replicate hy]; exact h
theorem bytes_app {a b : List Int} (h : Bytes a) (k : Bytes b) : Bytes (a ++ b) := fun y hy => by
  rcases List.mem_append.1 hy with h1 | h1
  · exact h y h1
  · exact k y h1
theorem up_bytes (most : Int) (l : List Int) (hb : Bytes l) : ∀ i o k, upStep most l i = some (o, k) → i ≤ l.length → Bytes o := by
  intro i
  induction i with
  | zero => intro o k h _; simp [upStep] at h; obtain ⟨rfl, rfl⟩ := h; intro x hx; cases hx
  | succ i ih =>
    intro o k h hi
    have h' : (upStep most l i).bind _ = some (o, k) := h
    rcases hu : upStep most l i with _ | ⟨o1, k1⟩
    · rw [hu] at h'; cases h'
    · have h1 := ih o1 k1 hu (by omega)
      rw [up_succ most l i hu rfl] at h
      have hx := hb.at_ (show i < l.length by omega) rfl
      have hx1 : 0 ≤ l.getD (i - 1) 0 ∧ l.getD (i - 1) 0 ≤ 255 := hb.at_ (show i - 1 < l.length by omega) rfl
      split at h
      · split at h
        · cases h
        · simp only [Option.some.injEq, Prod.mk.injEq] at h
          obtain ⟨rfl, rfl⟩ := h
          exact bytes_app h1 (bytes_rep hx1 _)
      · split at h
        · cases h
        · simp only [Option.some.injEq, Prod.mk.injEq] at h
          obtain ⟨rfl, rfl⟩ := h
          exact bytes_app h1 (fun y hy => by rw [List.mem_singleton.1 hy]; exact hx)
theorem upAll_bytes (most : Int) (l : List Int) (hb : Bytes l) : Bytes (upAll most l).1 := by
  unfold upAll
  split
  · intro x hx; cases hx
  · split
    · intro x hx; cases hx
    · rename_i p hp
      split
      · intro x hx; cases hx
      · exact up_bytes most l hb _ p.1 p.2 hp (Nat.le_refl _)
theorem pack_bytes (f : Nat) : ∀ l : List Int, l.length ≤ f → Bytes l → Bytes (pk f l) := by
  induction f with
  | zero => intro l h hb; simp [pk]; intro x hx; cases hx
  | succ f ih =>
    intro l h hb
    simp only [pk]
    split
    · intro x hx; cases hx
    · rename_i h0
      have h1 := runLen_all (l := l) (by omega)
      refine bytes_app (bytes_app (bytes_rep (hb.at_ (show 0 < l.length by omega) rfl) _) ?_) (ih _ (by rw [List.length_drop]; omega) (fun y hy => hb y (List.mem_of_mem_drop hy)))
      split
      · intro y hy
        rw [List.mem_singleton.1 hy]
        omega
      · intro x hx; cases hx
set_option maxHeartbeats 2000000 in
set_option maxRecDepth 100000 in
theorem packs_walk (A : Option Addr) (c : Nat) (l : List Int) (most : Int) (w : World) (hl : l.length ≤ 1100000) (hc : l.length ≤ c) (hcm : c ≤ 1100000) (hn : A = none → c = 0) (hm0 : -9223372036854775808 ≤ most) (hm1 : most ≤ 9223372036854775807)
    (hb : Bytes l) (hr : Rd w A (l.map (Value.int .u8))) : Calls Try.prog 6 #[.slice A l.length c, .int .i64 most] w fun e w' => e = .returned (.bool true) ∧ Below w.heap.size w w' := by
  have HR := Lib.hid hr
  have HBy := Lib.hid hb
  have HN := Lib.hid hn
  clear hr hb hn
  have b0 : Below w.heap.size w (w.alloc (.cells #[] 5)) := (Below.refl _ _).alloc (Nat.le_refl _) _
  have HB0 := Lib.hid b0
  have HO0 : Hid ((w.alloc (.cells #[] 5)).ownsRow w.heap.size 5 1 (.slice (some ⟨w.heap.size, 0, none⟩) 0 0) 0 []) := Lib.hid (World.ownsRow_lit w _ 0 (Nat.le_refl _) (by decide) rfl)
  have HR0 := Lib.hid (HR.out.below b0)
  have hlen := Lib.hid (show (l.map (Value.int .u8)).length = l.length from List.length_map ..)
  clear b0
  go_enter Try.func6, Try.ntmps6
  go_wp2_with (first
    | ((with_reducible refine gate_builtin (b := .append) (xs := #[.tmp 14, .tmp 15]) rfl ?_); refine wpList_appAny rfl (.tmp 14) (.tmp 15) 22 5 (.int .u8 0) 1 rfl Try.underlying22 info5 rfl w.heap.size w.heap.size w _ _ _ rfl HO0 A _ _ rfl HN _ hlen HR0 (Lib.hid (ints_one _ _)) (by omega) (by omega) (by simp) (Nat.le_refl _) HB0 ?_; intro v1 w1 HO1 HB1 HBW1 hsz1)
    | ((with_reducible refine gate_builtin (b := .append) (xs := #[.tmp 16, .tmp 17]) rfl ?_); refine wpList_app1 rfl (.tmp 16) (.tmp 17) 22 5 (.int .u8 0) 1 rfl Try.underlying22 info5 rfl w.heap.size w.heap.size w _ _ _ rfl HO1 (.int .u8 90) rfl rfl (by omega) (by omega) (by simp at hsz1; omega) (Nat.le_refl _) HB1 ?_; intro v2 w2 HO2 HB2 hsz2; obtain ⟨g, c2, rfl, hg1, hc2, hc3, hg2⟩ := own_some HO2.out (by omega)))
  have hin : Hid (w2.ownsRow w.heap.size 5 1 (.slice (some ⟨g, 0, none⟩) (l.length + 1) c2) (l.length + 1) ((l ++ [90]).map (Value.int .u8))) := Lib.hid (by
    have := HO2.out
    rwa [Nat.zero_add, List.nil_append, ← List.map_singleton (f := Value.int .u8), ← List.map_append] at this)
  have hown : Hid (Rd w2 (some ⟨g, 0, none⟩) (l.map (Value.int .u8))) := Lib.hid (by
    have := (Rd.of_own hin.out).take l.length
    rwa [← List.map_take, List.take_left' rfl] at this)
  have hsz2' : w.heap.size ≤ w2.heap.size := by simp at hsz1; omega
  clear HO1 HB1 HBW1 hsz1 HO2 hsz2 HR0 HO0 HB0 hlen
  have hc2' : l.length ≤ c2 := by omega
  refine (unpack24 (some ⟨g, 0, none⟩) c2 l most w2 (by omega) hc2' hc3 hm0 hm1 HBy.out hown.out).mono ?_
  rintro e w3 ⟨A1, d1, rfl, O1, B1, s1⟩
  go_wp2_with fail
  refine (unpack24 (some ⟨g, 0, none⟩) c2 l most w3 (by omega) hc2' hc3 hm0 hm1 HBy.out (hown.out.below B1.out)).mono ?_
  rintro e w4 ⟨A2, d2, rfl, O2, B2, s2⟩
  go_wp2_with fail
  have bw4 := Lib.hid (HB2.out.trans ((B1.out.mono hsz2').trans (B2.out.mono (show w.heap.size ≤ w3.heap.size by omega))))
  refine (unpack25 A c l most w4 (by omega) hc (by omega) hm0 hm1 HBy.out (HR.out.below bw4.out)).mono ?_
  rintro e w5 ⟨A3, d3, rfl, O3, B3, s3⟩
  go_wp2_with fail
  have bw5 := Lib.hid (bw4.out.trans (B3.out.mono (show w.heap.size ≤ w4.heap.size by omega)))
  refine (pack26 A c l w5 (by omega) (HR.out.below bw5.out)).mono ?_
  rintro e w6 ⟨A4, d4, rfl, O4, B4, s4⟩
  go_wp2_with fail
  have b26 := Lib.hid (B1.out.trans ((B2.out.mono s1).trans ((B3.out.mono (show w2.heap.size ≤ w4.heap.size by omega)).trans (B4.out.mono (show w2.heap.size ≤ w5.heap.size by omega)))))
  refine (pack28 (some ⟨g, 0, none⟩) c2 l w6 (by omega) hc2' hc3 (hown.out.below b26.out)).mono ?_
  rintro e w7 ⟨A5, d5, rfl, O5, B5, s5⟩
  go_wp2_with fail
  have hpl : (packAll l).length ≤ 1000000000 := by have := pack_len l.length l (Nat.le_refl _); unfold packAll; omega
  have hul : (upAll most l).1.length ≤ 1000000000 := by have := upAll_len most l HBy.out; omega
  have hpb := Lib.hid (pack_bytes l.length l (Nat.le_refl _) HBy.out)
  have hub := Lib.hid (upAll_bytes most l HBy.out)
  refine (spoilt27 (packAll l) A5 A4 d5 d4 w6.heap.size w7 hpl hpb.out O5 (Lib.hid ((Rd.of_own O4.out).below B5.out))).mono ?_
  rintro e w8 ⟨rfl, G8⟩
  go_wp2_with fail
  have b68 := Lib.hid (B5.out.trans (bel_grown O5.out G8.out (Nat.le_refl _) s5))
  have s8 : w6.heap.size ≤ w8.heap.size := b68.out.size
  refine (pack28 (some ⟨g, 0, none⟩) c2 l w8 (by omega) hc2' hc3 ((hown.out.below b26.out).below b68.out)).mono ?_
  rintro e w9 ⟨A6, d6, rfl, O6, B6, s6⟩
  go_wp2_with fail
  have b69 := Lib.hid (b68.out.trans (B6.out.mono s8))
  refine (spoilt27 (packAll l) A6 A4 d6 d4 w8.heap.size w9 hpl hpb.out O6 (Lib.hid ((Rd.of_own O4.out).below b69.out))).mono ?_
  rintro e w10 ⟨rfl, G10⟩
  have b610 := Lib.hid (b69.out.trans (bel_grown O6.out G10.out s8 (by omega)))
  have b310 := Lib.hid (B2.out.trans ((B3.out.mono s2).trans ((B4.out.mono (show w3.heap.size ≤ w5.heap.size by omega)).trans (b610.out.mono (show w3.heap.size ≤ w6.heap.size by omega)))))
  have b410 := Lib.hid (B3.out.trans ((B4.out.mono s3).trans (b610.out.mono (show w4.heap.size ≤ w6.heap.size by omega))))
  have b510 := Lib.hid (B4.out.trans (b610.out.mono s4))
  have b210 := Lib.hid (B1.out.trans (b310.out.mono s1))
  have O1' := Lib.hid (own_below O1.out b310.out)
  have O2' := Lib.hid (own_below O2.out b410.out)
  have O3' := Lib.hid (own_below O3.out b510.out)
  go_wp2_with fail
  refine (spoilt27 (upAll most l).1 A1 A3 d1 d3 w2.heap.size w10 hul hub.out O1' (Lib.hid (Rd.of_own O3'.out))).mono ?_
  rintro e w11 ⟨rfl, G11⟩
  have O2b := Lib.hid (O2'.out.kept G11.out (own_apart' O1.out O2.out (Nat.le_refl _)))
  have O3b := Lib.hid (O3'.out.kept G11.out (own_apart' O1.out O3.out s2))
  have hin10 := own_below hin.out b210.out
  have hin11 := hin10.kept G11.out (own_apart hin.out O1.out (Nat.le_refl _))
  have l10 : w2.heap.size ≤ w10.heap.size := b210.out.size
  have l11 : w10.heap.size ≤ w11.heap.size := G11.out.size
  have bw11 := (HB2.out.trans (b210.out.mono hsz2')).trans (bel_grown O1'.out G11.out (B := w.heap.size) hsz2' (by omega))
  have hin11' := Lib.hid hin11
  have bw11' := Lib.hid bw11
  clear hin10 hin11 bw11
  go_wp2_with fail
  refine (spoilt27 (upAll most l).1 A2 A3 d2 d3 w3.heap.size w11 hul hub.out O2b (Lib.hid (Rd.of_own O3b.out))).mono ?_
  rintro e w12 ⟨rfl, G12⟩
  have hin12 := hin11'.out.kept G12.out (own_apart hin.out O2.out s1)
  have bw12 := Lib.hid (bw11'.out.trans (bel_grown O2b.out G12.out (B := w.heap.size) (by omega) (by omega)))
  have hs1 := Rd.string (P := Try.prog) (src := 22) (dst := 9) (c := c2) Try.underlying22 Try.underlying5 Try.underlying9 (Rd.of_own hin12)
  have hs2 := Rd.string (P := Try.prog) (src := 22) (dst := 9) (c := c) Try.underlying22 Try.underlying5 Try.underlying9 (HR.out.below bw12.out)
  rw [show ([90] : List Int) = [((90 : UInt8).toNat : Int)] from rfl, strOfNums_snoc, List.length_append, List.length_singleton] at hs1
  clear hin12
  have hss : (strOfNums l).size ≤ 1100000 := by rw [strOfNums_size]; exact hl
  generalize strOfNums l = st at hs1 hs2 hss
  have hadd : ∀ W : World, (binOp .add 9 (.string st) (.string ⟨#[90]⟩)).run Try.prog W = .ok (.string (st ++ ⟨#[90]⟩)) W := fun W => by
    rw [binOp_string_add]
    exact run_string_add W st ⟨#[90]⟩ (by omega) (by decide)
  go_wp2_with fail
  refine (names29 _).mono ?_
  rintro e w' ⟨rfl, rfl⟩
  go_wp2
  go_ret
  exact ⟨by simp, bw12.out⟩
theorem bytes_wf {l : List Int} (h : ∀ x ∈ l, (Lit.int .u8 x).wf = true) : Bytes l := fun x hx => bounds_u8 (h x hx)
theorem packs_all (A : Option Addr) (c : Nat) (l : List Int) (most : Int) (w : World) (h : ArgRow .u8 w A c l) (hc : c ≤ 1048576) (hm : -9223372036854775808 ≤ most ∧ most ≤ 9223372036854775807) :
    Calls Try.prog 6 #[.slice A l.length c, .int .i64 most] w fun e w' => e = .returned (.bool true) ∧ Below w.heap.size w w' :=
  packs_walk A c l most w (by have := h.1; omega) h.1 (by omega) h.2.2.1 hm.1 hm.2 (bytes_wf h.2.2.2.2) h.2.2.2.1
end Go.Proofs.Ytcpcnhdjjfehcaa
