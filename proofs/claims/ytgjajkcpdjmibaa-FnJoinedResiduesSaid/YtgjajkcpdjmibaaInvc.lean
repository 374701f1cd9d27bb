/-
  InverseOf, the reference's and the program's, each by its contract: both return the same number and the same answer, for all arguments. No condition.
-/
import Derived.Test.YtgjajkcpdjmibaaInvb
namespace Go.Proofs.Ytgjajkcpdjmibaa
open Go.RowKit Num

/-- Whether there is an inverse. -/
def ivB (m a : Int) : Bool := inB m 2 1000000 && inB a 0 (m - 1) && decide (eg1 m a = 1)
/-- The inverse; 0 where there is none. -/
def ivV (m a : Int) : Int := if ivB m a = true then inv m a else 0

theorem iv_no {m a : Int} (h : ivB m a = false) : ivV m a = 0 := by unfold ivV; rw [if_neg (by rw [h]; simp)]
theorem iv_yes {m a : Int} (h : ivB m a = true) : ivV m a = inv m a := if_pos h
theorem ivB_m {m a : Int} (h : inB m 2 1000000 = false) : ivB m a = false := by unfold ivB; rw [h]; rfl
theorem ivB_a {m a : Int} (h : inB a 0 (m - 1) = false) : ivB m a = false := by unfold ivB; rw [h]; simp
theorem ivB_g {m a : Int} (h : ¬ eg1 m a = 1) : ivB m a = false := by unfold ivB; simp [h]
theorem ivB_y {m a : Int} (h : inB m 2 1000000 = true) (h1 : inB a 0 (m - 1) = true) (h2 : eg1 m a = 1) : ivB m a = true := by unfold ivB; simp [h, h1, h2]

set_option maxHeartbeats 400000 in
theorem specInverse_any (a m : Int) (w : World) :
    Calls Try.prog 11 #[.int .i64 a, .int .i64 m] w fun e w' => e = .returned (.tuple #[.int .i64 (ivV m a), .bool (ivB m a)]) ∧ w = w' := by
  cases hm : inB m 2 1000000
  · have H := Lib.hid (ivB_m (a := a) hm)
    go_enter Try.func11, Try.ntmps11
    go_wp2_with (first | (go_at_call 21; refine (l04Modulus_any _ _).mono ?_; rintro e w' ⟨rfl, rfl⟩) | (go_at_call 22; refine (l00In_any _ _ _ _).mono ?_; rintro e w' ⟨rfl, rfl⟩))
    go_ret2
    exact ⟨ret_ib (iv_no H.out).symm H.out.symm, rfl⟩
  · obtain ⟨m0, m1⟩ := inB_iff.1 hm
    cases ha : inB a 0 (m - 1)
    · have H := Lib.hid (ivB_a ha)
      go_enter Try.func11, Try.ntmps11
      go_wp2_with (first | (go_at_call 21; refine (l04Modulus_any _ _).mono ?_; rintro e w' ⟨rfl, rfl⟩) | (go_at_call 22; refine (l00In_any _ _ _ _).mono ?_; rintro e w' ⟨rfl, rfl⟩))
      go_ret2
      exact ⟨ret_ib (iv_no H.out).symm H.out.symm, rfl⟩
    · obtain ⟨a0, a1⟩ := inB_iff.1 ha
      by_cases hg : eg1 m a = 1
      · have H := Lib.hid (ivB_y hm ha hg)
        have hg1 : (eg1 m a == 1) = true := by simp [hg]
        clear hg
        go_enter Try.func11, Try.ntmps11
        go_wp2_with (first | (go_at_call 21; refine (l04Modulus_any _ _).mono ?_; rintro e w' ⟨rfl, rfl⟩) | (go_at_call 22; refine (l00In_any _ _ _ _).mono ?_; rintro e w' ⟨rfl, rfl⟩) | (go_at_call 23; refine (l04Inverse_any _ _ _ (by omega) (by omega) (by omega) (by omega)).mono ?_; rintro e w' ⟨rfl, rfl⟩))
        go_ret2
        exact ⟨ret_ib (iv_yes H.out).symm H.out.symm, rfl⟩
      · have H := Lib.hid (ivB_g hg)
        have hg1 : (eg1 m a == 1) = false := by simp [hg]
        clear hg
        go_enter Try.func11, Try.ntmps11
        go_wp2_with (first | (go_at_call 21; refine (l04Modulus_any _ _).mono ?_; rintro e w' ⟨rfl, rfl⟩) | (go_at_call 22; refine (l00In_any _ _ _ _).mono ?_; rintro e w' ⟨rfl, rfl⟩) | (go_at_call 23; refine (l04Inverse_any _ _ _ (by omega) (by omega) (by omega) (by omega)).mono ?_; rintro e w' ⟨rfl, rfl⟩))
        go_ret2
        exact ⟨ret_ib (iv_no H.out).symm H.out.symm, rfl⟩

theorem grown_trans {a b c : World} (h : Grown a b) (k : Grown b c) : Grown a c := by
  obtain ⟨h1, h2, h3⟩ := h
  obtain ⟨k1, k2, k3⟩ := k
  exact ⟨World.keptBut_trans h1 k1, fun x => (k2 x).trans (h2 x), Nat.le_trans h3 k3⟩

set_option maxHeartbeats 400000 in
theorem implInverse_any (a m : Int) (w : World) :
    Calls Try.prog 12 #[.int .i64 a, .int .i64 m] w fun e w' => e = .returned (.tuple #[.int .i64 (ivV m a), .bool (ivB m a)]) ∧ Grown w w' := by
  cases hm : inB m 2 1000000
  · have H := Lib.hid (ivB_m (a := a) hm)
    go_enter Try.func12, Try.ntmps12
    go_wp2_with (first | (go_at_call 19; refine (isModulus_any _ _).mono ?_; rintro e w' ⟨rfl, rfl⟩) | (go_at_call 20; refine (within_any _ _ _ _).mono ?_; rintro e w' ⟨rfl, rfl⟩))
    go_ret2
    exact ⟨ret_ib (iv_no H.out).symm H.out.symm, Grown.refl _⟩
  · obtain ⟨m0, m1⟩ := inB_iff.1 hm
    cases ha : inB a 0 (m - 1)
    · have H := Lib.hid (ivB_a ha)
      go_enter Try.func12, Try.ntmps12
      go_wp2_with (first | (go_at_call 19; refine (isModulus_any _ _).mono ?_; rintro e w' ⟨rfl, rfl⟩) | (go_at_call 20; refine (within_any _ _ _ _).mono ?_; rintro e w' ⟨rfl, rfl⟩))
      go_ret2
      exact ⟨ret_ib (iv_no H.out).symm H.out.symm, Grown.refl _⟩
    · obtain ⟨a0, a1⟩ := inB_iff.1 ha
      by_cases hg : eg1 m a = 1
      · have H := Lib.hid (ivB_y hm ha hg)
        have HI := Lib.hid (invOr_yes hg)
        have hz : (invOr m a == 0) = false := by
          have := inv_ne m0 a0 (by omega) hg
          rw [invOr_yes hg]; simp [this]
        clear hg
        go_enter Try.func12, Try.ntmps12
        go_wp2_with (first | (go_at_call 19; refine (isModulus_any _ _).mono ?_; rintro e w' ⟨rfl, rfl⟩) | (go_at_call 20; refine (within_any _ _ _ _).mono ?_; rintro e w' ⟨rfl, rfl⟩))
        refine (inverseOf_any _ _ _ (by omega) (by omega) (by omega) (by omega)).mono ?_
        rintro e w1 ⟨rfl, hg1⟩
        have G1 := Lib.hid hg1
        clear hg1
        go_wp2_with fail
        refine (inverseOf_any _ _ _ (by omega) (by omega) (by omega) (by omega)).mono ?_
        rintro e w2 ⟨rfl, hg2⟩
        go_wp2
        go_ret2
        exact ⟨ret_ib (HI.out.trans (iv_yes H.out).symm) H.out.symm, grown_trans G1.out hg2⟩
      · have H := Lib.hid (ivB_g hg)
        have hz : (invOr m a == 0) = true := by
          rw [invOr_no hg]; rfl
        clear hg
        go_enter Try.func12, Try.ntmps12
        go_wp2_with (first | (go_at_call 19; refine (isModulus_any _ _).mono ?_; rintro e w' ⟨rfl, rfl⟩) | (go_at_call 20; refine (within_any _ _ _ _).mono ?_; rintro e w' ⟨rfl, rfl⟩))
        refine (inverseOf_any _ _ _ (by omega) (by omega) (by omega) (by omega)).mono ?_
        rintro e w1 ⟨rfl, hg1⟩
        go_wp2
        go_ret2
        exact ⟨ret_ib (iv_no H.out).symm H.out.symm, hg1⟩

end Go.Proofs.Ytgjajkcpdjmibaa
