/- Words for memory that is read (Rd), and small lemmas on rows and worlds; no program is named. -/
import Derived.WalkKit
import Derived.RowKit3
import Derived.KernelRfl
import Derived.Laws.CopyOwn
import Derived.Deep.RegionLaw
import Derived.Deep.QuietTactic
import Derived.BigQuiet
import Derived.Deep.LoopGhost
import Derived.Lib.Hide
import Derived.WalkSpells
namespace Go.Proofs.YtejieakikboedaaK
open Go.RowKit
/-- The cells behind an address read as these values. -/
def Rd (w : World) (A : Option Addr) (vs : List Value) : Prop := ∀ i u, vs[i]? = some u → ∃ a, A = some a ∧ w.cell? (a.add i) = some u
theorem Rd.nil (w : World) (A : Option Addr) : Rd w A [] := fun i u h => by simp at h
theorem Rd.below {w w' : World} {A : Option Addr} {vs : List Value} (h : Rd w A vs) (hb : Below w.heap.size w w') : Rd w' A vs := fun i u hu => by
  obtain ⟨a, ha, hc⟩ := h i u hu
  exact ⟨a, ha, (hb.cell (World.block_lt_of_cell? w _ hc)).trans hc⟩
theorem Rd.at_ {w : World} {A : Option Addr} {vs : List Value} (h : Rd w A vs) (i : Nat) (hi : i < vs.length) : ∃ a, A = some a ∧ w.cell? (a.add i) = some vs[i] :=
  h i _ (List.getElem?_eq_getElem hi)
theorem Rd.of_own {w : World} {base : Nat} {e : TypeId} {size : Nat} {A : Option Addr} {m c n : Nat} {xs : List Value} (h : w.ownsRow base e size (.slice A m c) n xs) : Rd w A xs := by
  rcases h.2 with ⟨hv, hn⟩ | ⟨g, cap, cur, hv, hb, hg, h1, h2, h3, h4⟩
  · have : xs = [] := List.eq_nil_of_length_eq_zero (by rw [h.1, hn]; simp)
    subst this
    exact Rd.nil _ _
  · injection hv with hA hm hc
    subst hA
    intro i u hu
    refine ⟨_, rfl, ?_⟩
    exact h.cells (g := g) rfl i u hu
theorem Rd.ints {w : World} {k : IntKind} {A : Option Addr} {l : List Int} (h : Rd w A (l.map (Value.int k))) (i : Nat) (hi : i < l.length) : ∃ a, A = some a ∧ w.cell? (a.add i) = some (.int k (l.getD i 0)) := by
  obtain ⟨a, ha, hc⟩ := h.at_ i (by simpa using hi)
  refine ⟨a, ha, hc.trans ?_⟩
  simp [List.getD_eq_getElem?_getD, List.getElem?_eq_getElem hi]
theorem add_zero_off (g i : Nat) : (⟨g, 0, none⟩ : Addr).add i = ⟨g, i, none⟩ := by unfold Addr.add; split <;> simp_all
theorem grown_below {B : Nat} {w0 w w' : World} {v : Value} {base : Nat} {e : TypeId} {size n : Nat} {xs : List Value} (ho : w.ownsRow base e size v n xs) (hg : w.grownBy w' v.ownBlock) (hB : B ≤ base) (hBw : B ≤ w.heap.size) (hb : Below B w0 w) : Below B w0 w' :=
  hb.grown hg hBw (fun k hk => by have := ho.lt k hk; omega)
theorem own_form {w : World} {base : Nat} {e : TypeId} {size : Nat} {v : Value} {n : Nat} {xs : List Value} (h : w.ownsRow base e size v n xs) (hn : 0 < n) : ∃ g c, v = .slice (some ⟨g, 0, none⟩) n c ∧ base ≤ g ∧ n ≤ c ∧ g < w.heap.size := by
  rcases h.2 with ⟨hv, h0⟩ | ⟨g, cap, cur, hv, hb, hg, h1, h2, h3, h4⟩
  · omega
  · exact ⟨g, cap, hv, hb, h1, (Array.getElem?_eq_some_iff.1 hg).1⟩
theorem own_slice {w : World} {base : Nat} {e : TypeId} {size : Nat} {v : Value} {n : Nat} {xs : List Value} (h : w.ownsRow base e size v n xs) : ∃ A c, v = .slice A n c ∧ n ≤ c := by
  rcases h.2 with ⟨rfl, h0⟩ | ⟨g, cap, cur, hv, hb, hg, h1, h2, h3, h4⟩
  · exact ⟨none, 0, by rw [h0], by omega⟩
  · exact ⟨_, cap, hv, h1⟩
theorem own_len {w : World} {base : Nat} {e : TypeId} {v : Value} {n : Nat} {xs : List Value} (h : w.ownsRow base e 1 v n xs) : xs.length = n := by have := h.1; omega
theorem own_at {w : World} {base : Nat} {e : TypeId} {g n c : Nat} {xs : List Value} (h : w.ownsRow base e 1 (.slice (some ⟨g, 0, none⟩) n c) n xs) (i : Nat) (hi : i < xs.length) : w.cell? ⟨g, i, none⟩ = some xs[i] := by
  have := h.cells (g := g) rfl i _ (List.getElem?_eq_getElem hi)
  rwa [add_zero_off] at this
theorem Rd.blocks {w w' : World} {A : Option Addr} {vs : List Value} (h : Rd w A vs) (hk : ∀ a, A = some a → w'.heap[a.block]? = w.heap[a.block]?) : Rd w' A vs := fun i u hu => by
  obtain ⟨a, ha, hc⟩ := h i u hu
  refine ⟨a, ha, (World.cell?_of_block ?_).trans hc⟩
  have hb : (a.add i).block = a.block := by unfold Addr.add; split <;> rfl
  rw [hb]
  exact hk a ha
theorem Rd.set {w : World} {b : Addr} {vs : List Value} (h : Rd w (some b) vs) (p : Addr) (u : Value) (hne : b.block ≠ p.block) : Rd (w.setCell p u) (some b) vs :=
  h.blocks (fun a ha => by injection ha with ha; subst ha; exact Below.heap_setCell w p u _ hne)
theorem Rd.drew {w : World} {A : Option Addr} {vs : List Value} (h : Rd w A vs) : Rd w.drew A vs := h
theorem below_drew {B : Nat} {w W : World} (h : Below B w W) : Below B w W.drew := ⟨h.os, h.tape, h.output, h.size, h.block⟩
/-- append of one value (one cell) to a row of the call's own. -/
theorem wpList_app1 {P : Program} {wr : World} {ops : Array Oper} {rest : List Oper} {o : Oper} {a : Act} {Q : Exit → Act → World → Prop} (hgd : o.guard = none) (s x : Operand) (t e : TypeId) (z : Value) (bytes : Nat)
    (ho : o.op = .call { callee := .builtin .append, args := #[s, x], argTypes := #[t, t] }) (ht : P.underlying t = some (.slice e))
    (hinfo : (P.info? e).map (fun i => (i.zero, i.size, i.bytes)) = some (some z, 1, bytes)) (hzs : z.cells.size = 1)
    (base B : Nat) (w0 : World) (v : Value) (n : Nat) (xs : List Value) (hs : a.eval s = v) (hown : Hid (wr.ownsRow base e 1 v n xs)) (u : Value) (hu : u.oneCell' = true)
    (hx : a.eval x = .slice (some ⟨wr.heap.size, 0, none⟩) 1 1) (hn : n < 1000000000000) (hbytes : bytes ≤ 128) (hbase : base ≤ wr.heap.size) (hB : B ≤ base) (hb : Hid (Below B w0 wr))
    (h : ∀ v' w', Hid (w'.ownsRow base e 1 v' (n + 1) (xs ++ [u])) → Hid (Below B w0 w') → wr.heap.size ≤ w'.heap.size → wpList P ops Q rest (a.put o.dst v') w') :
    wpList P ops Q (o :: rest) a (wr.alloc (.cells #[u] e)) := by
  obtain ⟨i0, hi, hz0, hz1, hz2⟩ := info_parts hinfo
  refine wpList_append_own _ hgd s x t ho base e i0 z 1 bytes ht hi hz0 hz1 hz2 hzs (by decide) v n xs hs (hown.out.alloc _) ⟨wr.heap.size, 0, none⟩ 1 1 [u] hx rfl ?_ ?_ ?_ ?_ ?_ ?_
  · intro j y hy
    cases j with
    | zero => simp at hy; subst hy; rw [add_zero_off]; simp [World.cell?_alloc_new]
    | succ j => simp at hy
  · intro y hy; simp at hy; subst hy; exact hu
  · unfold maxLen; omega
  · have := Nat.mul_le_mul (show n + 1 ≤ 1000000000000 by omega) hbytes; omega
  · simp; omega
  · intro v' w' hown' hgrow _
    refine h v' w' (Lib.hid hown') (Lib.hid ?_) ?_
    · exact grown_below (hown.out.alloc _) hgrow hB (by simp; omega) (hb.out.alloc (by omega) _)
    · have := hgrow.size; simp at this; omega
/-- append of a row of values (one cell each) that is read, to a row of the call's own. -/
theorem wpList_appRow {P : Program} {w : World} {ops : Array Oper} {rest : List Oper} {o : Oper} {a : Act} {Q : Exit → Act → World → Prop} (hgd : o.guard = none) (s x : Operand) (t e : TypeId) (z : Value) (bytes : Nat)
    (ho : o.op = .call { callee := .builtin .append, args := #[s, x], argTypes := #[t, t] }) (ht : P.underlying t = some (.slice e))
    (hinfo : (P.info? e).map (fun i => (i.zero, i.size, i.bytes)) = some (some z, 1, bytes)) (hzs : z.cells.size = 1)
    (base B : Nat) (w0 : World) (v : Value) (n : Nat) (xs : List Value) (hs : a.eval s = v) (hown : Hid (w.ownsRow base e 1 v n xs)) (A : Option Addr) (m c : Nat) (hx : a.eval x = .slice A m c) (news : List Value) (hl : Hid (news.length = m)) (hm : 0 < m) (hr : Hid (Rd w A news))
    (h1 : Hid (∀ u ∈ news, u.oneCell' = true)) (hn : n + m < 1000000000000) (hbytes : bytes ≤ 128) (hbase : base ≤ w.heap.size) (hB : B ≤ base) (hb : Hid (Below B w0 w))
    (h : ∀ v' w', Hid (w'.ownsRow base e 1 v' (n + m) (xs ++ news)) → Hid (Below B w0 w') → Hid (Below base w w') → w.heap.size ≤ w'.heap.size → wpList P ops Q rest (a.put o.dst v') w') :
    wpList P ops Q (o :: rest) a w := by
  obtain ⟨i0, hi, hz0, hz1, hz2⟩ := info_parts hinfo
  obtain ⟨ad, rfl, _⟩ := hr.out.at_ 0 (by rw [hl.out]; exact hm)
  refine wpList_append_own _ hgd s x t ho base e i0 z 1 bytes ht hi hz0 hz1 hz2 hzs (by decide) v n xs hs hown.out ad m c news hx (by rw [hl.out, Nat.mul_one]) ?_ h1.out ?_ ?_ hbase ?_
  · intro j y hy
    obtain ⟨a', ha', hc⟩ := hr.out j y hy
    injection ha' with ha'; subst ha'; exact hc
  · unfold maxLen; omega
  · have := Nat.mul_le_mul (show n + m ≤ 1000000000000 by omega) hbytes; omega
  · intro v' w' hown' hgrow _
    refine h v' w' (Lib.hid hown') (Lib.hid (grown_below hown.out hgrow hB (by omega) hb.out)) (Lib.hid (grown_below hown.out hgrow (Nat.le_refl _) hbase (Below.refl _ _))) hgrow.size
theorem ints_one (k : IntKind) (l : List Int) : ∀ u ∈ l.map (Value.int k), u.oneCell' = true := by
  intro u hu
  obtain ⟨x, _, rfl⟩ := List.mem_map.1 hu
  rfl
theorem own_less {W : World} {b base n : Nat} {e : TypeId} {size : Nat} {v : Value} {xs : List Value} (h : W.ownsRow b e size v n xs) (hle : base ≤ b) : W.ownsRow base e size v n xs := by
  refine ⟨h.1, ?_⟩
  rcases h.2 with h1 | ⟨g, cap, cur, hv, hb, r⟩
  · exact .inl h1
  · exact .inr ⟨g, cap, cur, hv, Nat.le_trans hle hb, r⟩
theorem own_below {w w1 : World} {base : Nat} {e : TypeId} {size n : Nat} {v : Value} {xs : List Value} (h : w.ownsRow base e size v n xs) (hb : Below w.heap.size w w1) : w1.ownsRow base e size v n xs :=
  h.kept (row := none) ⟨hb.os, hb.tape, hb.output, hb.size, fun k hk _ => hb.block k hk⟩ (by cases v.ownBlock <;> simp)
section gates
variable {P : Program} {ops : Array Oper} {rest : List Oper} {o : Oper} {a : Act} {Q : Exit → Act → World → Prop} {W : World}
/-- Gates: this operation and no other: by the slot that it writes; by a store's address. -/
theorem gate_dst (N : Tmp) (_hN : o.dst = some N) (h : wpList P ops Q (o :: rest) a W) : wpList P ops Q (o :: rest) a W := h
theorem gate_builtin {b : Builtin} {xs : Array Operand} {ts : Array TypeId} (_ho : o.op = .call { callee := .builtin b, args := xs, argTypes := ts }) (h : wpList P ops Q (o :: rest) a W) : wpList P ops Q (o :: rest) a W := h
theorem gate_store {t : TypeId} {p : Tmp} {v : Operand} (_ho : o.op = .store t (.tmp p) v) (h : wpList P ops Q (o :: rest) a W) : wpList P ops Q (o :: rest) a W := h
end gates
/-- make of n values of one cell: the new block is known whole. -/
theorem wpList_make1 {P : Program} {w : World} {ops : Array Oper} {rest : List Oper} {o : Oper} {a : Act} {Q : Exit → Act → World → Prop} (hg : o.guard = none) (l c : Operand) (t e : TypeId) (z : Value) (bytes : Nat)
    (hop : o.op = Op.makeSlice t l c) (ht : P.underlying t = some (.slice e)) (hinfo : (P.info? e).map (fun i => (i.zero, i.size, i.bytes)) = some (some z, 1, bytes)) (hzs : z.cells = #[z])
    (kl kc : IntKind) (L C : Int) (n : Nat) (hl : a.eval l = .int kl L) (hc : a.eval c = .int kc C) (hL : L = (n : Int)) (hC : C = (n : Int)) (hn : n < 1000000000000) (hby : bytes ≤ 128) (B : Nat) (w0 : World) (hB : B ≤ w.heap.size) (hb : Hid (Below B w0 w))
    (hK : ∀ w', Hid (w'.heap[w.heap.size]? = some (.cells (List.replicate n z).toArray e (0, 0))) → Hid (Below B w0 w') → w.heap.size < w'.heap.size → Hid (Below w.heap.size w w') → wpList P ops Q rest (a.put o.dst (.slice (some ⟨w.heap.size, 0, none⟩) n n)) w') :
    wpList P ops Q (o :: rest) a w := by
  obtain ⟨i0, hi, hz0, hz1, hz2⟩ := info_parts hinfo
  have h64 : i0.bytes * n ≤ 281474976710656 := by rw [hz2]; have := Nat.mul_le_mul hby (show n ≤ 1000000000000 by omega); omega
  have hmx : n ≤ maxLen := by unfold maxLen; omega
  refine wpList_make_full w hg l c t hop w.heap.size e i0 z 1 ht hi hz0 hz1 kl kc L C n hl hc hL hC h64 hmx (Nat.le_refl _) ?_
  intro w' hown hgrow
  have hb2 : Below w.heap.size w w' := ⟨hgrow.os, hgrow.tape, hgrow.output, hgrow.size, fun k hk => hgrow.block k hk (by simp)⟩
  have hlt := (hown.lt w.heap.size rfl).2
  refine hK w' (Lib.hid ?_) (Lib.hid (hb.out.grown hgrow hB (by simp))) hlt (Lib.hid hb2)
  rcases hown.2 with ⟨h', _⟩ | ⟨g', cap', cur, h', _, hg', _, hcap, hcs, htake⟩
  · simp at h'
  · simp only [Value.slice.injEq, Option.some.injEq, Addr.mk.injEq, and_true, true_and] at h'
    obtain ⟨rfl, rfl⟩ := h'
    rw [hg']
    rw [hzs, Nat.mul_one, toList_madeCells_one] at htake
    rw [Nat.mul_one] at hcs
    have : cur.toList = List.replicate n z := by
      rw [← htake, List.take_of_length_le (by simp; omega)]
    rw [← this]
/-- A block that is known whole is owned. -/
theorem own_of_blk {w : World} {base : Nat} {e : TypeId} {g n : Nat} {xs : List Value} (h : w.heap[g]? = some (.cells xs.toArray e (0, 0))) (hb : base ≤ g) (hn : xs.length = n) (hm : n ≤ 1000000000000) : w.ownsRow base e 1 (.slice (some ⟨g, 0, none⟩) n n) n xs :=
  ⟨by omega, .inr ⟨g, n, xs.toArray, rfl, hb, h, Nat.le_refl _, by unfold maxLen; omega, by simp; omega, by rw [Nat.mul_one, ← hn]; simp⟩⟩
theorem blk_at {w : World} {g : Nat} {xs : List Value} {e : TypeId} (h : w.heap[g]? = some (.cells xs.toArray e (0, 0))) (i : Nat) : w.cell? ⟨g, i, none⟩ = xs[i]? := by
  rw [cell_of_row w g i _ _ _ h]; simp
end Go.Proofs.YtejieakikboedaaK
