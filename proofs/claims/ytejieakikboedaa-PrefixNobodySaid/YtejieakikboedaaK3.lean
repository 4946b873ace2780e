/- Appends of a row that may be nil; what an own row's capacity may be; strings of lists. No program is named. -/
import Derived.Test.YtejieakikboedaaK2
import Derived.Laws.AppendOwnNone
namespace Go.Proofs.YtejieakikboedaaK
open Go.RowKit
theorem wpList_appAny {P : Program} {w : World} {ops : Array Oper} {rest : List Oper} {o : Oper} {a : Act} {Q : Exit → Act → World → Prop} (hgd : o.guard = none) (s x : Operand) (t e : TypeId) (z : Value) (bytes : Nat)
    (ho : o.op = .call { callee := .builtin .append, args := #[s, x], argTypes := #[t, t] }) (ht : P.underlying t = some (.slice e))
    (hinfo : (P.info? e).map (fun i => (i.zero, i.size, i.bytes)) = some (some z, 1, bytes)) (hzs : z.cells.size = 1)
    (base B : Nat) (w0 : World) (v : Value) (n : Nat) (xs : List Value) (hs : a.eval s = v) (hown : Hid (w.ownsRow base e 1 v n xs)) (A : Option Addr) (m c : Nat) (hx : a.eval x = .slice A m c) (hA : Hid (A = none → c = 0)) (news : List Value) (hl : Hid (news.length = m)) (hr : Hid (Rd w A news))
    (h1 : Hid (∀ u ∈ news, u.oneCell' = true)) (hn : n + m < 1000000000000) (hbytes : bytes ≤ 128) (hbase : base ≤ w.heap.size) (hB : B ≤ base) (hb : Hid (Below B w0 w))
    (h : ∀ v' w', Hid (w'.ownsRow base e 1 v' (n + m) (xs ++ news)) → Hid (Below B w0 w') → Hid (Below base w w') → w.heap.size ≤ w'.heap.size → wpList P ops Q rest (a.put o.dst v') w') :
    wpList P ops Q (o :: rest) a w := by
  cases A with
  | some ad => exact wpList_appRowAt hgd s x t e z bytes ho ht hinfo hzs base B w0 v n xs hs hown ad m c hx news hl hr h1 hn hbytes hbase hB hb h
  | none =>
    obtain ⟨i0, hi, hz0, hz1, hz2⟩ := info_parts hinfo
    have h0 : news = [] := by
      cases news with
      | nil => rfl
      | cons y r =>
        obtain ⟨b, hb', _⟩ := hr.out 0 y rfl
        cases hb'
    have hm0 : m = 0 := by rw [← hl.out, h0]; rfl
    have hc0 : c = 0 := hA.out rfl
    subst h0
    subst hm0
    subst hc0
    refine wpList_append_own_none hgd s x t ho base e i0 1 ht hi v n xs hs hown.out hx ?_
    have := h v w (by rw [List.append_nil]; exact hown) hb (Lib.hid (Below.refl _ _)) (Nat.le_refl _)
    exact this
theorem own_cap {w : World} {base : Nat} {e : TypeId} {size : Nat} {A : Option Addr} {m c n : Nat} {xs : List Value} (h : w.ownsRow base e size (.slice A m c) n xs) : c ≤ 9223372036854775807 ∧ m = n ∧ (A = none → c = 0) := by
  rcases h.2 with ⟨hv, hn⟩ | ⟨g, cap, cur, hv, hb, hg, h1, h2, h3, h4⟩
  · simp at hv
    obtain ⟨rfl, rfl, rfl⟩ := hv
    exact ⟨by omega, hn.symm, fun _ => rfl⟩
  · simp at hv
    obtain ⟨rfl, rfl, rfl⟩ := hv
    unfold maxLen at h2
    exact ⟨h2, rfl, fun h => by cases h⟩
theorem strOfNums_snoc (l : List Int) (x : UInt8) : strOfNums (l ++ [(x.toNat : Int)]) = strOfNums l ++ ⟨#[x]⟩ := by
  unfold strOfNums
  simp
  rfl
theorem own_some {w : World} {base : Nat} {e : TypeId} {size : Nat} {v : Value} {n : Nat} {xs : List Value} (h : w.ownsRow base e size v n xs) (hn : 0 < n) : ∃ g c, v = .slice (some ⟨g, 0, none⟩) n c ∧ base ≤ g ∧ n ≤ c ∧ c ≤ 9223372036854775807 ∧ g < w.heap.size := by
  obtain ⟨g, c, rfl, h1, h2, h3⟩ := own_form h hn
  exact ⟨g, c, rfl, h1, h2, (own_cap h).1, h3⟩
theorem grown_set {w wr : World} {g : Nat} (h : w.grownBy wr (some g)) (j : Nat) (u : Value) : w.grownBy (wr.setCell ⟨g, j, none⟩ u) (some g) :=
  ⟨h.os, h.tape, h.output, by have := h.size; simpa using this, fun k hk hne => (Below.heap_setCell wr ⟨g, j, none⟩ u k (fun e => hne (by simp [e]))).trans (h.block k hk hne)⟩
theorem grown_refl (w : World) (row : Option Nat) : w.grownBy w row := World.grownBy.refl w row
/-- Two rows, the second made behind the first: other blocks. -/
theorem own_apart {w1 w2 : World} {b1 b2 e1 e2 n m : Nat} {u v : Value} {xs ys : List Value} (h1 : w1.ownsRow b1 e1 1 u n xs) (h2 : w2.ownsRow b2 e2 1 v m ys) (h : w1.heap.size ≤ b2) : u.ownBlock = none ∨ u.ownBlock ≠ v.ownBlock := by
  cases hu : u.ownBlock with
  | none => exact .inl rfl
  | some a =>
    refine .inr fun he => ?_
    have l1 := (h1.lt a hu).2
    have l2 := (h2.lt a he.symm).1
    omega
theorem own_apart' {w1 w2 : World} {b1 b2 e1 e2 n m : Nat} {u v : Value} {xs ys : List Value} (h1 : w1.ownsRow b1 e1 1 u n xs) (h2 : w2.ownsRow b2 e2 1 v m ys) (h : w1.heap.size ≤ b2) : v.ownBlock = none ∨ v.ownBlock ≠ u.ownBlock := by
  cases hv : v.ownBlock with
  | none => exact .inl rfl
  | some a =>
    refine .inr fun he => ?_
    have l1 := (h1.lt a he.symm).2
    have l2 := (h2.lt a hv).1
    omega
/-- What lay below a row's base stands where the row alone was written. -/
theorem bel_grown {w w' : World} {base e n : Nat} {v : Value} {xs : List Value} (h : w.ownsRow base e 1 v n xs) (hg : w.grownBy w' v.ownBlock) {B : Nat} (hB : B ≤ base) (hBw : B ≤ w.heap.size) : Below B w w' :=
  grown_below h hg hB hBw (Below.refl _ _)
end Go.Proofs.YtejieakikboedaaK
