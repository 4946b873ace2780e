/- More words for memory that is read, over any program: strings out of bytes, rows appended at a known address, cuts. -/
import Derived.Test.YtejieakikboedaaK
import Derived.Laws.BytesArg
namespace Go.Proofs.YtejieakikboedaaK
open Go.RowKit
theorem Rd.string {P : Program} {w : World} {src dst e : TypeId} {A : Option Addr} {c : Nat} {l : List Int} (hs : P.underlying src = some (.slice e)) (he : P.underlying e = some (.int .u8)) (hd : P.underlying dst = some .string)
    (h : Rd w A (l.map (Value.int .u8))) : (convert src dst (.slice A l.length c)).run P w = .ok (.string (strOfNums l)) w := by
  rcases A with _ | ad
  · have h0 : l = [] := by
      cases l with
      | nil => rfl
      | cons x r =>
        obtain ⟨a, ha, _⟩ := h 0 (.int .u8 x) rfl
        cases ha
    subst h0
    exact run_convert_bytes_nil w src e hs he 0 c dst hd
  · have hl : (loadCells ad l.length).run P w = .ok (l.map (Value.int .u8)).toArray w := by
      have := run_loadCells_list (P := P) w ad (l.map (Value.int .u8)) (fun j v hj => by
        obtain ⟨a, ha, hc⟩ := h j v hj
        injection ha with ha
        subst ha
        exact hc)
      simpa using this
    rw [run_convert_bytes_string w src dst e _ l.length c hs he hd, run_bytesToString w ad l.length c l hl, foldl_push_bytes]
    simp [strOfNums, ByteArray.empty, ByteArray.emptyWithCapacity]
    rfl
theorem add_add (a : Addr) (i j : Nat) : (a.add i).add j = a.add (i + j) := by
  unfold Addr.add
  by_cases h : i = 0 <;> by_cases h' : j = 0 <;> simp [h, h', Nat.add_assoc]
theorem Rd.drop {w : World} {a : Addr} {vs : List Value} (h : Rd w (some a) vs) (k : Nat) : Rd w (some (a.add k)) (vs.drop k) := by
  intro i u hu
  rw [List.getElem?_drop] at hu
  obtain ⟨b, hb, hc⟩ := h _ _ hu
  injection hb with hb
  subst hb
  exact ⟨_, rfl, by rw [add_add]; exact hc⟩
theorem Rd.take {w : World} {A : Option Addr} {vs : List Value} (h : Rd w A vs) (k : Nat) : Rd w A (vs.take k) := by
  intro i u hu
  rw [List.getElem?_take] at hu
  split at hu
  · exact h i u hu
  · cases hu
theorem Rd.grown {w w' : World} {base : Nat} {e : TypeId} {size n : Nat} {v : Value} {xs : List Value} {A : Option Addr} {vs : List Value} (h : Rd w A vs) (ho : w.ownsRow base e size v n xs) (hg : w.grownBy w' v.ownBlock) (hlt : ∀ a, A = some a → a.block < base) : Rd w' A vs := by
  intro i u hu
  obtain ⟨a, ha, hc⟩ := h i u hu
  have hb : (a.add i).block = a.block := by unfold Addr.add; split <;> rfl
  have hlt2 := World.block_lt_of_cell? w _ hc
  refine ⟨a, ha, (World.cell?_of_block (hg.block _ hlt2 ?_)).trans hc⟩
  intro he
  have := ho.lt _ he.symm
  have := hlt a ha
  omega
/-- A row appended whose address is known (it may be empty). -/
theorem wpList_appRowAt {P : Program} {w : World} {ops : Array Oper} {rest : List Oper} {o : Oper} {a : Act} {Q : Exit → Act → World → Prop} (hgd : o.guard = none) (s x : Operand) (t e : TypeId) (z : Value) (bytes : Nat)
    (ho : o.op = .call { callee := .builtin .append, args := #[s, x], argTypes := #[t, t] }) (ht : P.underlying t = some (.slice e))
    (hinfo : (P.info? e).map (fun i => (i.zero, i.size, i.bytes)) = some (some z, 1, bytes)) (hzs : z.cells.size = 1)
    (base B : Nat) (w0 : World) (v : Value) (n : Nat) (xs : List Value) (hs : a.eval s = v) (hown : Hid (w.ownsRow base e 1 v n xs)) (ad : Addr) (m c : Nat) (hx : a.eval x = .slice (some ad) m c) (news : List Value) (hl : Hid (news.length = m)) (hr : Hid (Rd w (some ad) news))
    (h1 : Hid (∀ u ∈ news, u.oneCell' = true)) (hn : n + m < 1000000000000) (hbytes : bytes ≤ 128) (hbase : base ≤ w.heap.size) (hB : B ≤ base) (hb : Hid (Below B w0 w))
    (h : ∀ v' w', Hid (w'.ownsRow base e 1 v' (n + m) (xs ++ news)) → Hid (Below B w0 w') → Hid (Below base w w') → w.heap.size ≤ w'.heap.size → wpList P ops Q rest (a.put o.dst v') w') :
    wpList P ops Q (o :: rest) a w := by
  obtain ⟨i0, hi, hz0, hz1, hz2⟩ := info_parts hinfo
  refine wpList_append_own _ hgd s x t ho base e i0 z 1 bytes ht hi hz0 hz1 hz2 hzs (by decide) v n xs hs hown.out ad m c news hx (by rw [hl.out, Nat.mul_one]) ?_ h1.out ?_ ?_ hbase ?_
  · intro j y hy
    obtain ⟨a', ha', hc⟩ := hr.out j y hy
    injection ha' with ha'; subst ha'; exact hc
  · unfold maxLen; omega
  · have := Nat.mul_le_mul (show n + m ≤ 1000000000000 by omega) hbytes; omega
  · intro v' w' hown' hgrow _
    refine h v' w' (Lib.hid hown') (Lib.hid (grown_below hown.out hgrow hB (by omega) hb.out)) (Lib.hid (grown_below hown.out hgrow (Nat.le_refl _) hbase (Below.refl _ _))) hgrow.size
theorem nil_own (w : World) (base : Nat) (e : TypeId) : w.ownsRow base e 1 (.slice none 0 0) 0 [] := World.ownsRow_nil _ _ _ _
theorem Rd.num {w : World} {k : IntKind} {A : Option Addr} {l : List Int} (h : Rd w A (l.map (Value.int k))) (i : Nat) (hi : i < l.length) : ∃ a x, A = some a ∧ w.cell? (a.add i) = some (.int k x) ∧ Hid (l.getD i 0 = x) := by
  obtain ⟨a, ha, hc⟩ := h.ints i hi
  exact ⟨a, _, ha, hc, Lib.hid rfl⟩
def Bytes (l : List Int) : Prop := ∀ x ∈ l, 0 ≤ x ∧ x ≤ 255
theorem Bytes.at_ {l : List Int} (h : Bytes l) {i : Nat} (hi : i < l.length) {x : Int} (hx : l.getD i 0 = x) : 0 ≤ x ∧ x ≤ 255 := by
  rw [List.getD_eq_getElem?_getD, List.getElem?_eq_getElem hi] at hx
  subst hx
  exact h _ (List.getElem_mem hi)
theorem bel_drewN {B : Nat} {w W : World} (h : Hid (Below B w W)) (n : Nat) : Hid (Below B w (W.drewN n)) := ⟨h.out.os, h.out.tape, h.out.output, h.out.size, h.out.block⟩
theorem own_drewN {W : World} {base n : Nat} {e : TypeId} {size : Nat} {v : Value} {xs : List Value} (h : Hid (W.ownsRow base e size v n xs)) (m : Nat) : Hid ((W.drewN m).ownsRow base e size v n xs) := h
theorem Rd.drewN {w : World} {A : Option Addr} {vs : List Value} (h : Hid (Rd w A vs)) (n : Nat) : Hid (Rd (w.drewN n) A vs) := h
end Go.Proofs.YtejieakikboedaaK
