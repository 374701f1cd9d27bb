/-
  The program's modular inverse by its contract: it returns the remainder of the factor where the divisor is 1, otherwise 0; it makes two arrays and leaves what was there as it was. Conditions: a modulus from 1 to 1000000, a number from 0 to the modulus.
-/
import Derived.Test.YtgjajkcpdjmibaaInv
namespace Go.Proofs.Ytgjajkcpdjmibaa
open Go.RowKit Num

/-- The inverse; 0 where the divisor isn't 1. -/
def invOr (m a : Int) : Int := if eg1 m a = 1 then inv m a else 0
theorem invOr_yes {m a : Int} (h : eg1 m a = 1) : invOr m a = inv m a := if_pos h
theorem invOr_no {m a : Int} (h : eg1 m a ≠ 1) : invOr m a = 0 := if_neg h

set_option maxHeartbeats 400000 in
theorem inverseOf_any (a m : Int) (w : World) (hm : 0 < m) (hm1 : m ≤ 1000000) (h0 : 0 ≤ a) (h1 : a ≤ m) :
    Calls Try.prog 24 #[.int .i64 a, .int .i64 m] w fun e w' => e = .returned (.int .i64 (invOr m a)) ∧ Grown w w' := by
  have H0 := EI.start hm h0 h1
  go_enter Try.func24, Try.ntmps24
  go_wp2
  go_loopg [] (a.toNat) (fun k wr => ∃ B S X Y : Int, k = S.toNat ∧ EI m a B S X Y ∧ Hid (eg B S X Y = eg m a 0 1) ∧ wr = (w.alloc (.cells #[.int .i64 B, .int .i64 S] 54)).alloc (.cells #[.int .i64 X, .int .i64 Y] 54))
  case atStart => exact ⟨m, a, 0, 1, rfl, H0, rfl, rfl⟩
  case round =>
    obtain ⟨B, S, X, Y, rfl, hI, hE, rfl⟩ := hrel
    have i1 := hI.b0
    have i2 := hI.bm
    have i3 := hI.s0
    have i4 := hI.sm
    have i5 := hI.x1
    have i6 := hI.x2
    have i7 := hI.y1
    have i8 := hI.y2
    by_cases hS : 0 < S
    · obtain ⟨q1, q2, q3, q4, q5, q6⟩ := round_bounds hI hS hm1
      go_wp2
      obtain ⟨z0, z1, z2, z3, z4⟩ := quo_bounds hS i1
      have z5 := Int.emod_lt_of_pos B hS
      go_roundg (B - B / S * S).toNat
      case measure => omega
      case rel => exact ⟨S, _, Y, _, rfl, hI.step hS, (eg_pos hS).symm.trans hE, rfl⟩
    · have r1 := Int.lt_tmod_of_pos X hm
      have r2 := Int.tmod_lt_of_pos X hm
      have hS0 : (S != 0) = false := by
        have : S = 0 := by omega
        simp [this]
      by_cases hB : B = 1
      · have hB0 : (B != 1) = false := by simp [hB]
        have HB := Lib.hid hB
        clear hB
        go_wp2
        go_ret
        refine ⟨ret_int ?_, ?_⟩
        · have e : eg m a 0 1 = (B, X) := by rw [← hE.out, eg_zero (by omega)]
          rw [tmod_mod, invOr_yes (by unfold eg1; rw [e]; exact HB.out)]
          unfold inv eg2
          rw [e]
        · exact ((Grown.refl w).alloc _ _).alloc _ _
      · have hB0 : (B != 1) = true := by simp [hB]
        have HB := Lib.hid hB
        clear hB
        go_wp2
        go_ret
        refine ⟨ret_int ?_, ?_⟩
        · have e : eg m a 0 1 = (B, X) := by rw [← hE.out, eg_zero (by omega)]
          rw [invOr_no (by unfold eg1; rw [e]; exact HB.out)]
        · exact ((Grown.refl w).alloc _ _).alloc _ _

end Go.Proofs.Ytgjajkcpdjmibaa
