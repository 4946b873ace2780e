/- Rows of words: elements of two cells. No program is named. -/
import Derived.Test.YtejieakikboedaaPs
namespace Go.Proofs.YtejieakikboedaaK
open Go.RowKit
def wcells (ws : List (Int × Int)) : List Value := ws.flatMap fun p => [.int .u32 p.1, .int .i64 p.2]
theorem wcells_cons (p : Int × Int) (ws : List (Int × Int)) : wcells (p :: ws) = .int .u32 p.1 :: .int .i64 p.2 :: wcells ws := rfl
theorem wcells_len (ws : List (Int × Int)) : (wcells ws).length = ws.length * 2 := by
  induction ws with
  | nil => rfl
  | cons p r ih => rw [wcells_cons, List.length_cons, List.length_cons, ih, List.length_cons]; omega
theorem wcells_at (ws : List (Int × Int)) : ∀ k, k < ws.length → (wcells ws)[k * 2]? = some (.int .u32 (ws.getD k (0, 0)).1) ∧ (wcells ws)[k * 2 + 1]? = some (.int .i64 (ws.getD k (0, 0)).2) := by
  induction ws with
  | nil => intro k h; cases h
  | cons p r ih =>
    intro k h
    cases k with
    | zero => exact ⟨rfl, rfl⟩
    | succ k =>
      have := ih k (by simpa using h)
      rw [wcells_cons]
      rw [show (k + 1) * 2 = k * 2 + 1 + 1 by omega]
      exact ⟨this.1, this.2⟩
theorem wcells_set (ws : List (Int × Int)) : ∀ k a b, k < ws.length → ((wcells ws).set (k * 2) (.int .u32 a)).set (k * 2 + 1) (.int .i64 b) = wcells (ws.set k (a, b)) := by
  induction ws with
  | nil => intro k a b h; cases h
  | cons p r ih =>
    intro k a b h
    cases k with
    | zero => rfl
    | succ k =>
      have := ih k a b (by simpa using h)
      rw [wcells_cons, show (k + 1) * 2 = k * 2 + 1 + 1 by omega, List.set_cons_succ, List.set_cons_succ, List.set_cons_succ, List.set_cons_succ, this]
      rfl
theorem wcells_zero (n : Nat) : wcells (List.replicate n (0, 0)) = (List.replicate n [Value.int .u32 0, .int .i64 0]).flatten := by
  induction n with
  | zero => rfl
  | succ n ih => rw [List.replicate_succ, wcells_cons, ih, List.replicate_succ, List.flatten_cons]; rfl
theorem madeCells_two (x y : Value) (n : Nat) : (madeCells #[x, y] (n * 2)).toList = (List.replicate n [x, y]).flatten := by
  induction n with
  | zero => simp [madeCells]
  | succ n ih =>
    have e : (madeCells #[x, y] ((n + 1) * 2)).toList = (madeCells #[x, y] (n * 2)).toList ++ [x, y] := by
      have h0 : (n * 2) % 2 = 0 := by omega
      have h1 : (n * 2 + 1) % 2 = 1 := by omega
      rw [show (n + 1) * 2 = n * 2 + 1 + 1 by omega]
      simp [madeCells, List.range_succ, h0, h1]
    rw [e, ih, List.replicate_succ', List.flatten_append]
    simp
/-- A word's row, its block known whole. -/
def WBlk (e : TypeId) (w : World) (g : Nat) (ws : List (Int × Int)) : Prop := w.heap[g]? = some (.cells (wcells ws).toArray e (0, 0))
theorem WBlk.at_ {e : TypeId} {w : World} {g : Nat} {ws : List (Int × Int)} (h : WBlk e w g ws) (k : Nat) (hk : k < ws.length) : w.cell? ⟨g, k * 2, none⟩ = some (.int .u32 (ws.getD k (0, 0)).1) ∧ w.cell? ⟨g, k * 2 + 1, none⟩ = some (.int .i64 (ws.getD k (0, 0)).2) := by
  have := wcells_at ws k hk
  rw [blk_at h, blk_at h]
  exact this
theorem blk_frz {w : World} {g : Nat} {xs : Array Value} {e : TypeId} (h : w.heap[g]? = some (.cells xs e (0, 0))) (i : Nat) : w.frozen? ⟨g, i, none⟩ = false := by simp [World.frozen?, h]
theorem blk_set {w : World} {g : Nat} {t : TypeId} {cs : List Value} (h : w.heap[g]? = some (.cells cs.toArray t (0, 0))) (i : Nat) (u : Value) : (w.setCell ⟨g, i, none⟩ u).heap[g]? = some (.cells (cs.set i u).toArray t (0, 0)) := by
  have := heap_setCell_same w g i cs.toArray t u h
  rw [this]
  simp
theorem blk_other {w : World} {g : Nat} {o : Obj} (h : w.heap[g]? = some o) (p : Addr) (u : Value) (hne : g ≠ p.block) : (w.setCell p u).heap[g]? = some o := (Below.heap_setCell w p u g hne).trans h
theorem WBlk.set {e : TypeId} {w : World} {g : Nat} {ws : List (Int × Int)} (h : WBlk e w g ws) (k : Nat) (hk : k < ws.length) (a b : Int) : WBlk e ((w.setCell ⟨g, k * 2, none⟩ (.int .u32 a)).setCell ⟨g, k * 2 + 1, none⟩ (.int .i64 b)) g (ws.set k (a, b)) := by
  have := blk_set (blk_set h (k * 2) (.int .u32 a)) (k * 2 + 1) (.int .i64 b)
  rw [wcells_set ws k a b hk] at this
  exact this
/-- make of n words. -/
theorem wpList_make2 {P : Program} {w : World} {ops : Array Oper} {rest : List Oper} {o : Oper} {a : Act} {Q : Exit → Act → World → Prop} (hg : o.guard = none) (l c : Operand) (t e : TypeId) (bytes : Nat)
    (hop : o.op = Op.makeSlice t l c) (ht : P.underlying t = some (.slice e)) (hinfo : (P.info? e).map (fun i => (i.zero, i.size, i.bytes)) = some (some (.agg #[.int .u32 0, .int .i64 0]), 2, bytes))
    (kl kc : IntKind) (L C : Int) (n : Nat) (hl : a.eval l = .int kl L) (hc : a.eval c = .int kc C) (hL : L = (n : Int)) (hC : C = (n : Int)) (hn : n < 1000000000000) (hby : bytes ≤ 128) (B : Nat) (w0 : World) (hB : B ≤ w.heap.size) (hb : Hid (Below B w0 w))
    (hK : ∀ w', Hid (WBlk e w' w.heap.size (List.replicate n (0, 0))) → Hid (Below B w0 w') → w.heap.size < w'.heap.size → Hid (Below w.heap.size w w') → wpList P ops Q rest (a.put o.dst (.slice (some ⟨w.heap.size, 0, none⟩) n n)) w') :
    wpList P ops Q (o :: rest) a w := by
  obtain ⟨i0, hi, hz0, hz1, hz2⟩ := info_parts hinfo
  have h64 : i0.bytes * n ≤ 281474976710656 := by rw [hz2]; have := Nat.mul_le_mul hby (show n ≤ 1000000000000 by omega); omega
  have hmx : n ≤ maxLen := by unfold maxLen; omega
  refine wpList_make_full w hg l c t hop w.heap.size e i0 (.agg #[.int .u32 0, .int .i64 0]) 2 ht hi hz0 hz1 kl kc L C n hl hc hL hC h64 hmx (Nat.le_refl _) ?_
  intro w' hown hgrow
  have hb2 : Below w.heap.size w w' := ⟨hgrow.os, hgrow.tape, hgrow.output, hgrow.size, fun k hk => hgrow.block k hk (by simp)⟩
  have hlt := (hown.lt w.heap.size rfl).2
  refine hK w' (Lib.hid ?_) (Lib.hid (hb.out.grown hgrow hB (by simp))) hlt (Lib.hid hb2)
  rcases hown.2 with ⟨h', _⟩ | ⟨g', cap', cur, h', _, hg', _, hcap, hcs, htake⟩
  · simp at h'
  · simp only [Value.slice.injEq, Option.some.injEq, Addr.mk.injEq, and_true, true_and] at h'
    obtain ⟨rfl, rfl⟩ := h'
    unfold WBlk
    rw [hg']
    have e1 : (Value.agg #[.int .u32 0, .int .i64 0]).cells = #[.int .u32 0, .int .i64 0] := rfl
    rw [e1, madeCells_two, ← wcells_zero] at htake
    have : cur.toList = wcells (List.replicate n (0, 0)) := by
      rw [← htake, List.take_of_length_le (by simp; omega)]
    rw [← this]
end Go.Proofs.YtejieakikboedaaK
