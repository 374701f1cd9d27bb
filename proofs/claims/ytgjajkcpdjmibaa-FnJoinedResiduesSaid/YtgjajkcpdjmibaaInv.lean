/-
  The two modular inverses, each by its contract: the reference's returns the remainder of the factor and whether the divisor is 1, the program's the same remainder or 0. Conditions: a modulus from 1 to 1000000, a number from 0 to the modulus.
-/
import Derived.Test.YtgjajkcpdjmibaaIn
import Derived.Test.YtgjajkcpdjmibaaNum
import Derived.Deep.LoopGhost
namespace Go.Proofs.Ytgjajkcpdjmibaa
open Go.RowKit Num

theorem ret_ib {k : IntKind} {a b : Int} {p q : Bool} (h1 : a = b) (h2 : p = q) : Ending.returned (.tuple #[.int k a, .bool p]) = .returned (.tuple #[.int k b, .bool q]) := by rw [h1, h2]

theorem tmod_mod (x m : Int) : x.tmod m % m = x % m := by
  rw [Int.tmod_def, Int.sub_mul_emod_self_left]

theorem sq_le {m : Int} (h0 : 0 ≤ m) (h1 : m ≤ 1000000) : m * m ≤ 1000000000000 := by
  have h := Int.mul_le_mul h1 h1 h0 (by omega)
  omega

/-- The bounds of a round, as the walk wants them. -/
theorem round_bounds {m a b s x y : Int} (h : EI m a b s x y) (hs : 0 < s) (hm : m ≤ 1000000) :
    0 ≤ b / s ∧ b / s ≤ 1000000 ∧ 0 ≤ b / s * s ∧ b / s * s ≤ b ∧ -1000000000000 ≤ b / s * y ∧ b / s * y ≤ 1000000000000 := by
  obtain ⟨q0, q1, q2, q3, q4⟩ := quo_bounds hs h.b0
  have t := h.small hs
  have b1 := h.bm
  have b0 := h.b0
  have t2 := sq_le (m := m) (by omega) hm
  omega

set_option maxHeartbeats 400000 in
theorem l04Inverse_any (a m : Int) (w : World) (hm : 0 < m) (hm1 : m ≤ 1000000) (h0 : 0 ≤ a) (h1 : a ≤ m) :
    Calls Try.prog 23 #[.int .i64 a, .int .i64 m] w fun e w' => e = .returned (.tuple #[.int .i64 (inv m a), .bool (eg1 m a == 1)]) ∧ w = w' := by
  have H0 := EI.start hm h0 h1
  go_enter Try.func23, Try.ntmps23
  go_wp2
  go_loop [6, 7, 8, 9] (fun b s x y => ∃ B S X Y : Int, EI m a B S X Y ∧ Hid (eg B S X Y = eg m a 0 1) ∧ b = .int .i64 B ∧ s = .int .i64 S ∧ x = .int .i64 X ∧ y = .int .i64 Y) (fun _ s _ _ => (intOf s).toNat)
  case atStart => exact ⟨m, a, 0, 1, H0, rfl, rfl, rfl, rfl, rfl⟩
  case round =>
    obtain ⟨B, S, X, Y, hI, hE, rfl, rfl, rfl, rfl⟩ := hrel
    have i1 := hI.b0
    have i2 := hI.bm
    have i3 := hI.s0
    have i4 := hI.sm
    have i5 := hI.x1
    have i6 := hI.x2
    have i7 := hI.y1
    have i8 := hI.y2
    by_cases hS : 0 < S
    · obtain ⟨q1, q2, q3, q4, q5, q6⟩ := round_bounds hI hS hm1
      go_wp2
      obtain ⟨z0, z1, z2, z3, z4⟩ := quo_bounds hS i1
      have z5 := Int.emod_lt_of_pos B hS
      go_round
      case rel => exact ⟨S, _, Y, _, hI.step hS, (eg_pos hS).symm.trans hE, rfl, rfl, rfl, rfl⟩
      case measure => simp [intOf]; omega
    · have hS0 : S = 0 := by omega
      have HS := Lib.hid hS0
      clear hS0
      have r1 := Int.lt_tmod_of_pos X hm
      have r2 := Int.tmod_lt_of_pos X hm
      go_wp2
      go_ret2
      refine ⟨ret_ib ?_ ?_, rfl⟩
      · rw [tmod_mod]
        unfold inv eg2
        rw [← hE.out, eg_zero (by omega)]
      · unfold eg1
        rw [← hE.out, eg_zero (by omega)]

end Go.Proofs.Ytgjajkcpdjmibaa
