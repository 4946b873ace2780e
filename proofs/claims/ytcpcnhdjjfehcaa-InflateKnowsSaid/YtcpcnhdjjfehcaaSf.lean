/- The contract of inflate.Fixed, over the seat's program. -/
import Derived.Test.YtcpcnhdjjfehcaaSe
namespace Go.Proofs.Ytcpcnhdjjfehcaa
open Go.RowKit Go.Proofs.YtcpcnhdjjfehcaaK
set_option linter.unusedVariables false
set_option linter.unusedSimpArgs false
theorem made_read {B : Nat} {w0 w w' : World} {l : List Int} {e : Ending} (h : Made B w0 w l e w') : ∃ A c, e = .returned (.slice A l.length c) ∧ Rd w' A (l.map (Value.int .i64)) ∧ Below B w0 w' ∧ w.heap.size ≤ w'.heap.size := by
  obtain ⟨v, he, ho, hb, hs⟩ := h
  obtain ⟨A, c, rfl, _⟩ := own_slice ho
  exact ⟨A, c, he, Rd.of_own ho, hb, hs⟩
theorem cell_new (W : World) (x : Value) (e : TypeId) : (W.alloc (.cells #[x] e)).cell? ⟨W.heap.size, 0, none⟩ = some x := by simp [World.cell?_alloc_new]
/-- slices.Repeat of a slice that was just made. -/
def RepPost (w : World) (x : Int) (c : Nat) (e : Ending) (w' : World) : Prop := ∃ A c', e = .returned (.slice A c c') ∧ Hid (Rd w' A ((List.replicate c x).map (Value.int .i64))) ∧ Hid (Below w.heap.size w w') ∧ w.heap.size ≤ w'.heap.size
theorem rep44 (x : Int) (c : Nat) (w : World) (hc0 : 0 < c) (hc : c ≤ 65536) : Calls Try.prog 44 #[.slice (some ⟨w.heap.size, 0, none⟩) 1 1, .int .i64 c] (w.alloc (.cells #[.int .i64 x] 3)) (RepPost w x c) := by
  refine (repeat44 _ _ x c w.heap.size w _ hc0 hc (cell_new _ _ _) (by simp) ((Below.refl _ _).alloc (Nat.le_refl _) _)).mono ?_
  intro e w1 hm
  obtain ⟨A1, c1, rfl, hr1, hb1, hs1⟩ := made_read hm
  rw [List.length_replicate]
  exact ⟨A1, c1, rfl, Lib.hid hr1, Lib.hid hb1, by simp at hs1; omega⟩
def fixR (A1 A2 A3 A4 : Option Addr) (c1 c2 c3 c4 : Nat) : Rows4 := [(A1, c1, List.replicate 144 8), (A2, c2, List.replicate 112 9), (A3, c3, List.replicate 24 7), (A4, c4, List.replicate 8 8)]
theorem fixR_le (A1 A2 A3 A4 : Option Addr) (c1 c2 c3 c4 : Nat) : ∀ k, k ≤ (fixR A1 A2 A3 A4 c1 c2 c3 c4).length → rowsLen ((fixR A1 A2 A3 A4 c1 c2 c3 c4).take k) ≤ 288 := by
  intro k hk
  have : k ≤ 4 := hk
  match k, this with
  | 0, _ => simp [rowsLen]
  | 1, _ => simp [rowsLen, fixR]
  | 2, _ => simp [rowsLen, fixR]
  | 3, _ => simp [rowsLen, fixR]
  | 4, _ => simp [rowsLen, fixR]
theorem fixR_all (P : Option Addr × Nat × List Int → Prop) (A1 A2 A3 A4 : Option Addr) (c1 c2 c3 c4 : Nat) (h1 : P (A1, c1, List.replicate 144 8)) (h2 : P (A2, c2, List.replicate 112 9)) (h3 : P (A3, c3, List.replicate 24 7)) (h4 : P (A4, c4, List.replicate 8 8)) :
    ∀ k (h : k < (fixR A1 A2 A3 A4 c1 c2 c3 c4).length), P (fixR A1 A2 A3 A4 c1 c2 c3 c4)[k] := by
  intro k hk
  have : k < 4 := hk
  match k, this with
  | 0, _ => exact h1
  | 1, _ => exact h2
  | 2, _ => exact h3
  | 3, _ => exact h4
theorem fixR_cat (A1 A2 A3 A4 : Option Addr) (c1 c2 c3 c4 : Nat) : rowsCat (fixR A1 A2 A3 A4 c1 c2 c3 c4) = fixL := by
  simp only [rowsCat, fixR, fixL, List.flatMap_cons, List.flatMap_nil, List.append_nil, List.append_assoc]
theorem Rd.four {w : World} {x1 x2 x3 x4 : Value} {e : TypeId} : Rd (w.alloc (.cells #[x1, x2, x3, x4] e)) (some ⟨w.heap.size, 0, none⟩) [x1, x2, x3, x4] := by
  intro i u hu
  refine ⟨_, rfl, ?_⟩
  rw [add_zero_off]
  have : i < 4 := by have := (List.getElem?_eq_some_iff.1 hu).1; simpa using this
  match i, this with
  | 0, _ => simp at hu; subst hu; simp [World.cell?_alloc_new]
  | 1, _ => simp at hu; subst hu; simp [World.cell?_alloc_new]
  | 2, _ => simp at hu; subst hu; simp [World.cell?_alloc_new]
  | 3, _ => simp at hu; subst hu; simp [World.cell?_alloc_new]
set_option maxHeartbeats 800000 in
set_option maxRecDepth 100000 in
theorem fixed17 (w : World) : Calls Try.prog 17 #[] w (Made w.heap.size w w fixL) := by
  go_enter Try.func17, Try.ntmps17
  go_wp2_with fail
  refine (rep44 8 144 _ (by omega) (by omega)).mono ?_
  rintro e w1 ⟨A1, c1, rfl, HR1, HB1, hs1⟩
  go_wp2_with fail
  refine (rep44 9 112 _ (by omega) (by omega)).mono ?_
  rintro e w2 ⟨A2, c2, rfl, HR2, HB2, hs2⟩
  go_wp2_with fail
  refine (rep44 7 24 _ (by omega) (by omega)).mono ?_
  rintro e w3 ⟨A3, c3, rfl, HR3, HB3, hs3⟩
  go_wp2_with fail
  refine (rep44 8 8 _ (by omega) (by omega)).mono ?_
  rintro e w4 ⟨A4, c4, rfl, HR4, HB4, hs4⟩
  go_wp2_with fail
  have b4 : Below w4.heap.size w4 (w4.alloc (.cells #[.slice A1 144 c1, .slice A2 112 c2, .slice A3 24 c3, .slice A4 8 c4] 23)) := (Below.refl _ _).alloc (Nat.le_refl _) _
  have r1 := (((HR1.out.below HB2.out).below HB3.out).below HB4.out).below b4
  have r2 := ((HR2.out.below HB3.out).below HB4.out).below b4
  have r3 := (HR3.out.below HB4.out).below b4
  have r4 := HR4.out.below b4
  have bw : Below w.heap.size w w4 := (HB1.out.trans (HB2.out.mono hs1)).trans ((HB3.out.mono (by omega)).trans (HB4.out.mono (by omega)))
  refine (concat43 _ (fixR A1 A2 A3 A4 c1 c2 c3 c4) 4 w.heap.size w _ (Nat.le_of_ble_eq_true rfl) (by simp [rowsLen, fixR]) (fixR_le _ _ _ _ _ _ _ _) Rd.four (fixR_all (fun r => Rd _ r.1 (r.2.2.map (Value.int .i64))) _ _ _ _ _ _ _ _ r1 r2 r3 r4) (fixR_all (fun r => 0 < r.2.2.length) _ _ _ _ _ _ _ _ (by simp) (by simp) (by simp) (by simp)) (by simp; omega) (bw.alloc (by omega) _)).mono ?_
  rintro e w5 ⟨v, rfl, ho, hb, hs5⟩
  rw [fixR_cat] at ho
  have HO := Lib.hid ho
  have HB := Lib.hid hb
  clear ho hb r1 r2 r3 r4 bw b4
  go_wp2
  go_ret
  refine ⟨_, rfl, own_less HO.out ?_, HB.out, ?_⟩ <;> simp at hs5 ⊢ <;> omega
/-- What a maker of a list hands back, spelled for a walk. -/
def Gave (w : World) (l : List Int) (e : Ending) (w' : World) : Prop := ∃ A c, e = .returned (.slice A l.length c) ∧ Hid (w'.ownsRow w.heap.size 3 1 (.slice A l.length c) l.length (l.map (Value.int .i64))) ∧ Hid (Below w.heap.size w w') ∧ w.heap.size ≤ w'.heap.size
theorem made_gave {w w' : World} {l : List Int} {e : Ending} (h : Made w.heap.size w w l e w') : Gave w l e w' := by
  obtain ⟨v, rfl, ho, hb, hs⟩ := h
  obtain ⟨A, c, rfl, _⟩ := own_slice ho
  exact ⟨A, c, rfl, Lib.hid ho, Lib.hid hb, hs⟩
theorem own_lt2 {w1 w2 : World} {b1 e n m c c' : Nat} {A B : Option Addr} {xs ys : List Value} (h1 : w1.ownsRow b1 e 1 (.slice A n c) n xs) (h2 : w2.ownsRow w1.heap.size e 1 (.slice B m c') m ys) : ∀ a b, A = some a → B = some b → a.block ≠ b.block := by
  rintro a b rfl rfl he
  have l1 := (h1.lt a.block rfl).2
  have l2 := (h2.lt b.block rfl).1
  omega
/-- Two lists made one behind the other are the same; the first is written over. -/
theorem same_two (l : List Int) (hl : l.length ≤ 1000) (w w1 w2 : World) (A B : Option Addr) (c c' : Nat) (h1 : Hid (w1.ownsRow w.heap.size 3 1 (.slice A l.length c) l.length (l.map (Value.int .i64)))) (h2 : Hid (w2.ownsRow w1.heap.size 3 1 (.slice B l.length c') l.length (l.map (Value.int .i64))))
    (b1 : Hid (Below w.heap.size w w1)) (b2 : Hid (Below w1.heap.size w1 w2)) (s1 : w.heap.size ≤ w1.heap.size) (s2 : w1.heap.size ≤ w2.heap.size) :
    Calls Try.prog 16 #[.slice A l.length c, .slice B l.length c'] w2 fun e w' => e = .returned (.bool true) ∧ Hid (Below w.heap.size w w') ∧ w.heap.size ≤ w'.heap.size := by
  refine (same16 l A B c c' w.heap.size w.heap.size w w2 hl (own_below h1.out b2.out) (Rd.of_own h2.out) (own_lt2 h1.out h2.out) (by omega) (Nat.le_refl _) (b1.out.trans (b2.out.mono s1))).mono ?_
  rintro e w3 ⟨rfl, hb, hs⟩
  exact ⟨rfl, Lib.hid hb, by omega⟩
end Go.Proofs.Ytcpcnhdjjfehcaa
