/- Contracts of inflate's LengthOf and DistanceOf and of the reference's, over the seat's program: at every whole number both answer what lenOf and distOf say. -/
import Derived.Test.YtcpcnhdjjfehcaaProg
import Derived.Test.YtcpcnhdjjfehcaaK
namespace Go.Proofs.Ytcpcnhdjjfehcaa
open Go.RowKit Go.Proofs.YtcpcnhdjjfehcaaK
def lenOf (s : Int) : Int × Int × Int :=
  if s < 257 ∨ 285 < s then (0, 0, 2) else if s < 265 then (s - 254, 0, 0) else if s = 285 then (258, 0, 0)
  else (3 + (4 + (s - 257) % 4) * 2 ^ ((s - 257) / 4 - 1).toNat, (s - 257) / 4 - 1, 0)
def distOf (s : Int) : Int × Int × Int :=
  if s < 0 ∨ 29 < s then (0, 0, 2) else if s < 4 then (1 + s, 0, 0)
  else (1 + (2 + s % 2) * 2 ^ (s / 2 - 1).toNat, s / 2 - 1, 0)
def Trip (t : Int × Int × Int) (w : World) (e : Ending) (w' : World) : Prop := e = .returned (.tuple #[.int .i64 t.1, .int .i64 t.2.1, .int .i64 t.2.2]) ∧ w' = w

set_option maxHeartbeats 8000000 in
theorem len12 (s : Int) (h0 : -9223372036854775808 ≤ s) (h1 : s ≤ 9223372036854775807) (w : World) : Calls Try.prog 12 #[.int .i64 s] w (Trip (lenOf s) w) := by
  by_cases ha : s < 257
  · have e : lenOf s = (0, 0, 2) := by unfold lenOf; rw [if_pos (.inl ha)]
    rw [e]
    go_enter Try.func12, Try.ntmps12
    go_wp2
    go_ret3
    exact ⟨rfl, rfl⟩
  · by_cases hb : 285 < s
    · have e : lenOf s = (0, 0, 2) := by unfold lenOf; rw [if_pos (.inr hb)]
      rw [e]
      go_enter Try.func12, Try.ntmps12
      go_wp2
      go_ret3
      exact ⟨rfl, rfl⟩
    · obtain ⟨n, hn, rfl⟩ : ∃ n : Nat, n < 29 ∧ s = 257 + n := ⟨(s - 257).toNat, by omega, by omega⟩
      clear ha hb h0 h1
      match n, hn with
      | 0, _ => go_enter Try.func12, Try.ntmps12; go_wp2; go_ret3; exact ⟨rfl, rfl⟩
      | 1, _ => go_enter Try.func12, Try.ntmps12; go_wp2; go_ret3; exact ⟨rfl, rfl⟩
      | 2, _ => go_enter Try.func12, Try.ntmps12; go_wp2; go_ret3; exact ⟨rfl, rfl⟩
      | 3, _ => go_enter Try.func12, Try.ntmps12; go_wp2; go_ret3; exact ⟨rfl, rfl⟩
      | 4, _ => go_enter Try.func12, Try.ntmps12; go_wp2; go_ret3; exact ⟨rfl, rfl⟩
      | 5, _ => go_enter Try.func12, Try.ntmps12; go_wp2; go_ret3; exact ⟨rfl, rfl⟩
      | 6, _ => go_enter Try.func12, Try.ntmps12; go_wp2; go_ret3; exact ⟨rfl, rfl⟩
      | 7, _ => go_enter Try.func12, Try.ntmps12; go_wp2; go_ret3; exact ⟨rfl, rfl⟩
      | 8, _ => go_enter Try.func12, Try.ntmps12; go_wp2; go_ret3; exact ⟨rfl, rfl⟩
      | 9, _ => go_enter Try.func12, Try.ntmps12; go_wp2; go_ret3; exact ⟨rfl, rfl⟩
      | 10, _ => go_enter Try.func12, Try.ntmps12; go_wp2; go_ret3; exact ⟨rfl, rfl⟩
      | 11, _ => go_enter Try.func12, Try.ntmps12; go_wp2; go_ret3; exact ⟨rfl, rfl⟩
      | 12, _ => go_enter Try.func12, Try.ntmps12; go_wp2; go_ret3; exact ⟨rfl, rfl⟩
      | 13, _ => go_enter Try.func12, Try.ntmps12; go_wp2; go_ret3; exact ⟨rfl, rfl⟩
      | 14, _ => go_enter Try.func12, Try.ntmps12; go_wp2; go_ret3; exact ⟨rfl, rfl⟩
      | 15, _ => go_enter Try.func12, Try.ntmps12; go_wp2; go_ret3; exact ⟨rfl, rfl⟩
      | 16, _ => go_enter Try.func12, Try.ntmps12; go_wp2; go_ret3; exact ⟨rfl, rfl⟩
      | 17, _ => go_enter Try.func12, Try.ntmps12; go_wp2; go_ret3; exact ⟨rfl, rfl⟩
      | 18, _ => go_enter Try.func12, Try.ntmps12; go_wp2; go_ret3; exact ⟨rfl, rfl⟩
      | 19, _ => go_enter Try.func12, Try.ntmps12; go_wp2; go_ret3; exact ⟨rfl, rfl⟩
      | 20, _ => go_enter Try.func12, Try.ntmps12; go_wp2; go_ret3; exact ⟨rfl, rfl⟩
      | 21, _ => go_enter Try.func12, Try.ntmps12; go_wp2; go_ret3; exact ⟨rfl, rfl⟩
      | 22, _ => go_enter Try.func12, Try.ntmps12; go_wp2; go_ret3; exact ⟨rfl, rfl⟩
      | 23, _ => go_enter Try.func12, Try.ntmps12; go_wp2; go_ret3; exact ⟨rfl, rfl⟩
      | 24, _ => go_enter Try.func12, Try.ntmps12; go_wp2; go_ret3; exact ⟨rfl, rfl⟩
      | 25, _ => go_enter Try.func12, Try.ntmps12; go_wp2; go_ret3; exact ⟨rfl, rfl⟩
      | 26, _ => go_enter Try.func12, Try.ntmps12; go_wp2; go_ret3; exact ⟨rfl, rfl⟩
      | 27, _ => go_enter Try.func12, Try.ntmps12; go_wp2; go_ret3; exact ⟨rfl, rfl⟩
      | 28, _ => go_enter Try.func12, Try.ntmps12; go_wp2; go_ret3; exact ⟨rfl, rfl⟩
      | k + 29, h => exact absurd h (by omega)

set_option maxHeartbeats 8000000 in
theorem len13 (s : Int) (h0 : -9223372036854775808 ≤ s) (h1 : s ≤ 9223372036854775807) (w : World) : Calls Try.prog 13 #[.int .i64 s] w (Trip (lenOf s) w) := by
  by_cases ha : s < 257
  · have e : lenOf s = (0, 0, 2) := by unfold lenOf; rw [if_pos (.inl ha)]
    rw [e]
    go_enter Try.func13, Try.ntmps13
    go_wp2
    go_ret3
    exact ⟨rfl, rfl⟩
  · by_cases hb : 285 < s
    · have e : lenOf s = (0, 0, 2) := by unfold lenOf; rw [if_pos (.inr hb)]
      rw [e]
      go_enter Try.func13, Try.ntmps13
      go_wp2
      go_ret3
      exact ⟨rfl, rfl⟩
    · obtain ⟨n, hn, rfl⟩ : ∃ n : Nat, n < 29 ∧ s = 257 + n := ⟨(s - 257).toNat, by omega, by omega⟩
      clear ha hb h0 h1
      match n, hn with
      | 0, _ => go_enter Try.func13, Try.ntmps13; go_wp2; go_ret3; exact ⟨rfl, rfl⟩
      | 1, _ => go_enter Try.func13, Try.ntmps13; go_wp2; go_ret3; exact ⟨rfl, rfl⟩
      | 2, _ => go_enter Try.func13, Try.ntmps13; go_wp2; go_ret3; exact ⟨rfl, rfl⟩
      | 3, _ => go_enter Try.func13, Try.ntmps13; go_wp2; go_ret3; exact ⟨rfl, rfl⟩
      | 4, _ => go_enter Try.func13, Try.ntmps13; go_wp2; go_ret3; exact ⟨rfl, rfl⟩
      | 5, _ => go_enter Try.func13, Try.ntmps13; go_wp2; go_ret3; exact ⟨rfl, rfl⟩
      | 6, _ => go_enter Try.func13, Try.ntmps13; go_wp2; go_ret3; exact ⟨rfl, rfl⟩
      | 7, _ => go_enter Try.func13, Try.ntmps13; go_wp2; go_ret3; exact ⟨rfl, rfl⟩
      | 8, _ => go_enter Try.func13, Try.ntmps13; go_wp2; go_ret3; exact ⟨rfl, rfl⟩
      | 9, _ => go_enter Try.func13, Try.ntmps13; go_wp2; go_ret3; exact ⟨rfl, rfl⟩
      | 10, _ => go_enter Try.func13, Try.ntmps13; go_wp2; go_ret3; exact ⟨rfl, rfl⟩
      | 11, _ => go_enter Try.func13, Try.ntmps13; go_wp2; go_ret3; exact ⟨rfl, rfl⟩
      | 12, _ => go_enter Try.func13, Try.ntmps13; go_wp2; go_ret3; exact ⟨rfl, rfl⟩
      | 13, _ => go_enter Try.func13, Try.ntmps13; go_wp2; go_ret3; exact ⟨rfl, rfl⟩
      | 14, _ => go_enter Try.func13, Try.ntmps13; go_wp2; go_ret3; exact ⟨rfl, rfl⟩
      | 15, _ => go_enter Try.func13, Try.ntmps13; go_wp2; go_ret3; exact ⟨rfl, rfl⟩
      | 16, _ => go_enter Try.func13, Try.ntmps13; go_wp2; go_ret3; exact ⟨rfl, rfl⟩
      | 17, _ => go_enter Try.func13, Try.ntmps13; go_wp2; go_ret3; exact ⟨rfl, rfl⟩
      | 18, _ => go_enter Try.func13, Try.ntmps13; go_wp2; go_ret3; exact ⟨rfl, rfl⟩
      | 19, _ => go_enter Try.func13, Try.ntmps13; go_wp2; go_ret3; exact ⟨rfl, rfl⟩
      | 20, _ => go_enter Try.func13, Try.ntmps13; go_wp2; go_ret3; exact ⟨rfl, rfl⟩
      | 21, _ => go_enter Try.func13, Try.ntmps13; go_wp2; go_ret3; exact ⟨rfl, rfl⟩
      | 22, _ => go_enter Try.func13, Try.ntmps13; go_wp2; go_ret3; exact ⟨rfl, rfl⟩
      | 23, _ => go_enter Try.func13, Try.ntmps13; go_wp2; go_ret3; exact ⟨rfl, rfl⟩
      | 24, _ => go_enter Try.func13, Try.ntmps13; go_wp2; go_ret3; exact ⟨rfl, rfl⟩
      | 25, _ => go_enter Try.func13, Try.ntmps13; go_wp2; go_ret3; exact ⟨rfl, rfl⟩
      | 26, _ => go_enter Try.func13, Try.ntmps13; go_wp2; go_ret3; exact ⟨rfl, rfl⟩
      | 27, _ => go_enter Try.func13, Try.ntmps13; go_wp2; go_ret3; exact ⟨rfl, rfl⟩
      | 28, _ => go_enter Try.func13, Try.ntmps13; go_wp2; go_ret3; exact ⟨rfl, rfl⟩
      | k + 29, h => exact absurd h (by omega)

set_option maxHeartbeats 8000000 in
theorem dist14 (s : Int) (h0 : -9223372036854775808 ≤ s) (h1 : s ≤ 9223372036854775807) (w : World) : Calls Try.prog 14 #[.int .i64 s] w (Trip (distOf s) w) := by
  by_cases ha : s < 0
  · have e : distOf s = (0, 0, 2) := by unfold distOf; rw [if_pos (.inl ha)]
    rw [e]
    go_enter Try.func14, Try.ntmps14
    go_wp2
    go_ret3
    exact ⟨rfl, rfl⟩
  · by_cases hb : 29 < s
    · have e : distOf s = (0, 0, 2) := by unfold distOf; rw [if_pos (.inr hb)]
      rw [e]
      go_enter Try.func14, Try.ntmps14
      go_wp2
      go_ret3
      exact ⟨rfl, rfl⟩
    · obtain ⟨n, hn, rfl⟩ : ∃ n : Nat, n < 30 ∧ s = 0 + n := ⟨(s - 0).toNat, by omega, by omega⟩
      clear ha hb h0 h1
      match n, hn with
      | 0, _ => go_enter Try.func14, Try.ntmps14; go_wp2; go_ret3; exact ⟨rfl, rfl⟩
      | 1, _ => go_enter Try.func14, Try.ntmps14; go_wp2; go_ret3; exact ⟨rfl, rfl⟩
      | 2, _ => go_enter Try.func14, Try.ntmps14; go_wp2; go_ret3; exact ⟨rfl, rfl⟩
      | 3, _ => go_enter Try.func14, Try.ntmps14; go_wp2; go_ret3; exact ⟨rfl, rfl⟩
      | 4, _ => go_enter Try.func14, Try.ntmps14; go_wp2; go_ret3; exact ⟨rfl, rfl⟩
      | 5, _ => go_enter Try.func14, Try.ntmps14; go_wp2; go_ret3; exact ⟨rfl, rfl⟩
      | 6, _ => go_enter Try.func14, Try.ntmps14; go_wp2; go_ret3; exact ⟨rfl, rfl⟩
      | 7, _ => go_enter Try.func14, Try.ntmps14; go_wp2; go_ret3; exact ⟨rfl, rfl⟩
      | 8, _ => go_enter Try.func14, Try.ntmps14; go_wp2; go_ret3; exact ⟨rfl, rfl⟩
      | 9, _ => go_enter Try.func14, Try.ntmps14; go_wp2; go_ret3; exact ⟨rfl, rfl⟩
      | 10, _ => go_enter Try.func14, Try.ntmps14; go_wp2; go_ret3; exact ⟨rfl, rfl⟩
      | 11, _ => go_enter Try.func14, Try.ntmps14; go_wp2; go_ret3; exact ⟨rfl, rfl⟩
      | 12, _ => go_enter Try.func14, Try.ntmps14; go_wp2; go_ret3; exact ⟨rfl, rfl⟩
      | 13, _ => go_enter Try.func14, Try.ntmps14; go_wp2; go_ret3; exact ⟨rfl, rfl⟩
      | 14, _ => go_enter Try.func14, Try.ntmps14; go_wp2; go_ret3; exact ⟨rfl, rfl⟩
      | 15, _ => go_enter Try.func14, Try.ntmps14; go_wp2; go_ret3; exact ⟨rfl, rfl⟩
      | 16, _ => go_enter Try.func14, Try.ntmps14; go_wp2; go_ret3; exact ⟨rfl, rfl⟩
      | 17, _ => go_enter Try.func14, Try.ntmps14; go_wp2; go_ret3; exact ⟨rfl, rfl⟩
      | 18, _ => go_enter Try.func14, Try.ntmps14; go_wp2; go_ret3; exact ⟨rfl, rfl⟩
      | 19, _ => go_enter Try.func14, Try.ntmps14; go_wp2; go_ret3; exact ⟨rfl, rfl⟩
      | 20, _ => go_enter Try.func14, Try.ntmps14; go_wp2; go_ret3; exact ⟨rfl, rfl⟩
      | 21, _ => go_enter Try.func14, Try.ntmps14; go_wp2; go_ret3; exact ⟨rfl, rfl⟩
      | 22, _ => go_enter Try.func14, Try.ntmps14; go_wp2; go_ret3; exact ⟨rfl, rfl⟩
      | 23, _ => go_enter Try.func14, Try.ntmps14; go_wp2; go_ret3; exact ⟨rfl, rfl⟩
      | 24, _ => go_enter Try.func14, Try.ntmps14; go_wp2; go_ret3; exact ⟨rfl, rfl⟩
      | 25, _ => go_enter Try.func14, Try.ntmps14; go_wp2; go_ret3; exact ⟨rfl, rfl⟩
      | 26, _ => go_enter Try.func14, Try.ntmps14; go_wp2; go_ret3; exact ⟨rfl, rfl⟩
      | 27, _ => go_enter Try.func14, Try.ntmps14; go_wp2; go_ret3; exact ⟨rfl, rfl⟩
      | 28, _ => go_enter Try.func14, Try.ntmps14; go_wp2; go_ret3; exact ⟨rfl, rfl⟩
      | 29, _ => go_enter Try.func14, Try.ntmps14; go_wp2; go_ret3; exact ⟨rfl, rfl⟩
      | k + 30, h => exact absurd h (by omega)

set_option maxHeartbeats 8000000 in
theorem dist15 (s : Int) (h0 : -9223372036854775808 ≤ s) (h1 : s ≤ 9223372036854775807) (w : World) : Calls Try.prog 15 #[.int .i64 s] w (Trip (distOf s) w) := by
  by_cases ha : s < 0
  · have e : distOf s = (0, 0, 2) := by unfold distOf; rw [if_pos (.inl ha)]
    rw [e]
    go_enter Try.func15, Try.ntmps15
    go_wp2
    go_ret3
    exact ⟨rfl, rfl⟩
  · by_cases hb : 29 < s
    · have e : distOf s = (0, 0, 2) := by unfold distOf; rw [if_pos (.inr hb)]
      rw [e]
      go_enter Try.func15, Try.ntmps15
      go_wp2
      go_ret3
      exact ⟨rfl, rfl⟩
    · obtain ⟨n, hn, rfl⟩ : ∃ n : Nat, n < 30 ∧ s = 0 + n := ⟨(s - 0).toNat, by omega, by omega⟩
      clear ha hb h0 h1
      match n, hn with
      | 0, _ => go_enter Try.func15, Try.ntmps15; go_wp2; go_ret3; exact ⟨rfl, rfl⟩
      | 1, _ => go_enter Try.func15, Try.ntmps15; go_wp2; go_ret3; exact ⟨rfl, rfl⟩
      | 2, _ => go_enter Try.func15, Try.ntmps15; go_wp2; go_ret3; exact ⟨rfl, rfl⟩
      | 3, _ => go_enter Try.func15, Try.ntmps15; go_wp2; go_ret3; exact ⟨rfl, rfl⟩
      | 4, _ => go_enter Try.func15, Try.ntmps15; go_wp2; go_ret3; exact ⟨rfl, rfl⟩
      | 5, _ => go_enter Try.func15, Try.ntmps15; go_wp2; go_ret3; exact ⟨rfl, rfl⟩
      | 6, _ => go_enter Try.func15, Try.ntmps15; go_wp2; go_ret3; exact ⟨rfl, rfl⟩
      | 7, _ => go_enter Try.func15, Try.ntmps15; go_wp2; go_ret3; exact ⟨rfl, rfl⟩
      | 8, _ => go_enter Try.func15, Try.ntmps15; go_wp2; go_ret3; exact ⟨rfl, rfl⟩
      | 9, _ => go_enter Try.func15, Try.ntmps15; go_wp2; go_ret3; exact ⟨rfl, rfl⟩
      | 10, _ => go_enter Try.func15, Try.ntmps15; go_wp2; go_ret3; exact ⟨rfl, rfl⟩
      | 11, _ => go_enter Try.func15, Try.ntmps15; go_wp2; go_ret3; exact ⟨rfl, rfl⟩
      | 12, _ => go_enter Try.func15, Try.ntmps15; go_wp2; go_ret3; exact ⟨rfl, rfl⟩
      | 13, _ => go_enter Try.func15, Try.ntmps15; go_wp2; go_ret3; exact ⟨rfl, rfl⟩
      | 14, _ => go_enter Try.func15, Try.ntmps15; go_wp2; go_ret3; exact ⟨rfl, rfl⟩
      | 15, _ => go_enter Try.func15, Try.ntmps15; go_wp2; go_ret3; exact ⟨rfl, rfl⟩
      | 16, _ => go_enter Try.func15, Try.ntmps15; go_wp2; go_ret3; exact ⟨rfl, rfl⟩
      | 17, _ => go_enter Try.func15, Try.ntmps15; go_wp2; go_ret3; exact ⟨rfl, rfl⟩
      | 18, _ => go_enter Try.func15, Try.ntmps15; go_wp2; go_ret3; exact ⟨rfl, rfl⟩
      | 19, _ => go_enter Try.func15, Try.ntmps15; go_wp2; go_ret3; exact ⟨rfl, rfl⟩
      | 20, _ => go_enter Try.func15, Try.ntmps15; go_wp2; go_ret3; exact ⟨rfl, rfl⟩
      | 21, _ => go_enter Try.func15, Try.ntmps15; go_wp2; go_ret3; exact ⟨rfl, rfl⟩
      | 22, _ => go_enter Try.func15, Try.ntmps15; go_wp2; go_ret3; exact ⟨rfl, rfl⟩
      | 23, _ => go_enter Try.func15, Try.ntmps15; go_wp2; go_ret3; exact ⟨rfl, rfl⟩
      | 24, _ => go_enter Try.func15, Try.ntmps15; go_wp2; go_ret3; exact ⟨rfl, rfl⟩
      | 25, _ => go_enter Try.func15, Try.ntmps15; go_wp2; go_ret3; exact ⟨rfl, rfl⟩
      | 26, _ => go_enter Try.func15, Try.ntmps15; go_wp2; go_ret3; exact ⟨rfl, rfl⟩
      | 27, _ => go_enter Try.func15, Try.ntmps15; go_wp2; go_ret3; exact ⟨rfl, rfl⟩
      | 28, _ => go_enter Try.func15, Try.ntmps15; go_wp2; go_ret3; exact ⟨rfl, rfl⟩
      | 29, _ => go_enter Try.func15, Try.ntmps15; go_wp2; go_ret3; exact ⟨rfl, rfl⟩
      | k + 30, h => exact absurd h (by omega)

end Go.Proofs.Ytcpcnhdjjfehcaa
