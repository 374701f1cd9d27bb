/-
  JoinResidues, the program's and the reference's, each by its contract: an answer as the plain theory describes it, whatever the arguments; what was in memory stays as it was. No condition.
-/
import Derived.Test.YtgjajkcpdjmibaaJoin
namespace Go.Proofs.Ytgjajkcpdjmibaa
open Go.RowKit Num

theorem j_steps {m n a b D P K : Int} (hm : 0 < m) (hn : 0 < n) (b0 : 0 ≤ b) (b1 : b < n) (hD : D = (Int.gcd m n : Int)) (hP : n / D = P) (hd : D ∣ b - a) (hK : K = steps m n a b) : J m n a b (a + m * K) (m * P) true := by
  have hl := lcm_of hm hD
  rw [hD] at hd
  obtain ⟨s0, s1, s2⟩ := steps_hit hm hn b0 b1 hd
  refine Or.inl ⟨rfl, hd, ?_, K, by omega, by omega, rfl, by rw [hK]; exact s2⟩
  rw [← hP, ← hl.1, hl.2]

theorem quo_small {x D Z : Int} (h : D ∣ x) (hD : 0 < D) (hZ : x.tdiv D = Z) : (0 ≤ Z ∧ Z ≤ x ∨ x ≤ Z ∧ Z ≤ 0) ∧ True := by
  obtain ⟨q, rfl⟩ := h
  rw [Int.mul_tdiv_cancel_left _ (by omega)] at hZ
  subst hZ
  refine ⟨?_, trivial⟩
  by_cases h0 : 0 ≤ q
  · have := Int.mul_le_mul_of_nonneg_right (show 1 ≤ D by omega) h0
    omega
  · have := Int.mul_le_mul_of_nonneg_right (show 1 ≤ D by omega) (show 0 ≤ -q by omega)
    rw [Int.mul_neg, Int.mul_neg] at this
    omega

set_option maxHeartbeats 400000 in
theorem specJoin_yes (a m b n : Int) (w : World) (hm : inB m 2 1000000 = true) (hn : inB n 2 1000000 = true) (ha : inB a 0 (m - 1) = true) (hb : inB b 0 (n - 1) = true) :
    Calls Try.prog 13 #[.int .i64 a, .int .i64 m, .int .i64 b, .int .i64 n] w (JRes m n a b w) := by
  obtain ⟨m0, m1⟩ := inB_iff.1 hm
  obtain ⟨n0, n1⟩ := inB_iff.1 hn
  obtain ⟨a0, a1⟩ := inB_iff.1 ha
  obtain ⟨b0, b1⟩ := inB_iff.1 hb
  have HV := Lib.hid (jv_yes hm hn ha hb)
  go_enter Try.func13, Try.ntmps13
  go_wp2_with (first | (go_at_call 21; refine (l04Modulus_any _ _).mono ?_; rintro e w' ⟨rfl, rfl⟩) | (go_at_call 22; refine (l00In_any _ _ _ _).mono ?_; rintro e w' ⟨rfl, rfl⟩))
  go_loop [11, 12] (fun d e => ∃ D E : Int, d = .int .i64 D ∧ e = .int .i64 E ∧ GI m n D E) (fun _ e => (intOf e).toNat)
  case atStart => exact ⟨m, n, rfl, rfl, ⟨by omega, m1, by omega, n1, rfl⟩⟩
  case round =>
    obtain ⟨D, E, rfl, rfl, hG⟩ := hrel
    have g1 := hG.d0
    have g2 := hG.d1
    have g3 := hG.e0
    have g4 := hG.e1
    by_cases hE : 0 < E
    · go_wp2
      have z5 := Int.emod_lt_of_pos D hE
      have z6 := Int.emod_nonneg D (Int.ne_of_gt hE)
      go_round
      case rel => exact ⟨E, _, rfl, rfl, hG.step hE⟩
      case measure => simp [intOf]; omega
    · have HD : Hid (D = (Int.gcd m n : Int)) := by
        have : E = 0 := by omega
        subst this
        exact hG.last
      clear hG
      by_cases hd : D ∣ b - a
      · have hz : ((b - a).tmod D != 0) = false := by
          rw [Int.tmod_eq_zero_of_dvd hd]; rfl
        obtain ⟨P, hP⟩ : ∃ P, n / D = P := ⟨_, rfl⟩
        have p1 : 0 < P := by
          rw [← hP]
          refine Int.ediv_pos_of_pos_of_dvd (by omega) (by omega) ?_
          rw [HD.out]; exact Int.gcd_dvd_right _ _
        have p2 : P ≤ 1000000 := by
          have := Int.ediv_le_self D (show 0 ≤ n by omega)
          omega
        by_cases hp : 1 < P
        · obtain ⟨Z, hZ⟩ : ∃ Z, (b - a).tdiv D = Z := ⟨_, rfl⟩
          obtain ⟨T, hT⟩ : ∃ T, Z.tmod P % P = T := ⟨_, rfl⟩
          obtain ⟨U, hU⟩ : ∃ U, m / D % P = U := ⟨_, rfl⟩
          have l1 : 0 ≤ m / D := Int.ediv_nonneg (by omega) (by omega)
          have l2 : m / D ≤ m := Int.ediv_le_self _ (by omega)
          have u1 : 0 ≤ U := by rw [← hU]; exact Int.emod_nonneg _ (by omega)
          have u2 : U < P := by rw [← hU]; exact Int.emod_lt_of_pos _ p1
          obtain ⟨v1, v2⟩ := inv_bounds (a := U) p1
          have t1 : 0 ≤ T := by rw [← hT]; exact Int.emod_nonneg _ (by omega)
          have t2 : T < P := by rw [← hT]; exact Int.emod_lt_of_pos _ p1
          have s1 : 0 ≤ T * inv P U := Int.mul_nonneg t1 v1
          have s2 : T * inv P U ≤ 1000000000000 := by
            have := Int.mul_le_mul (show T ≤ 1000000 by omega) (show inv P U ≤ 1000000 by omega) v1 (by omega)
            omega
          obtain ⟨K, hK⟩ : ∃ K, T * inv P U % P = K := ⟨_, rfl⟩
          have k1 : 0 ≤ K := by rw [← hK]; exact Int.emod_nonneg _ (by omega)
          have k2 : K < P := by rw [← hK]; exact Int.emod_lt_of_pos _ p1
          have x1 : 0 ≤ m * K := Int.mul_nonneg (by omega) k1
          have x2 : m * K ≤ 1000000000000 := by
            have := Int.mul_le_mul m1 (show K ≤ 1000000 by omega) k1 (by omega)
            omega
          have y1 : 0 ≤ m * P := Int.mul_nonneg (by omega) (by omega)
          have y2 : m * P ≤ 1000000000000 := by
            have := Int.mul_le_mul m1 p2 (by omega) (by omega)
            omega
          have w0 := (quo_small hd g1 hZ).1
          have w1 : -1000000 ≤ Z := by omega
          have w2 : Z ≤ 1000000 := by omega
          clear w0
          have z1 := Int.lt_tmod_of_pos Z p1
          have z2 := Int.tmod_lt_of_pos Z p1
          have HJ := Lib.hid (j_steps (K := K) (a := a) (by omega) (by omega) b0 (by omega) HD.out hP hd (by
            unfold steps
            rw [← HD.out, hP, hU, ← hK, ← hT, tmod_mod, ← hZ, Int.tdiv_eq_ediv_of_dvd hd]))
          clear hd
          go_wp2_with fail
          refine (l04Inverse_any _ _ _ (by omega) (by omega) (by omega) (by omega)).mono ?_
          rintro e w' ⟨rfl, rfl⟩
          go_wp2
          go_ret3
          exact ⟨_, _, true, rfl, Or.inl ⟨HV.out, HJ.out⟩, Grown.refl _⟩
        · have HJ := Lib.hid (j_steps (K := 0) (a := a) (by omega) (by omega) b0 (by omega) HD.out hP hd (by
            have hp1 : P = 1 := by omega
            unfold steps
            rw [← HD.out, hP, hp1, Int.emod_one]))
          have q1 : 0 ≤ m * P ∧ m * P ≤ 1000000000000 := by
            have hp1 : P = 1 := by omega
            subst hp1
            omega
          obtain ⟨q1, q2⟩ := q1
          have HP := Lib.hid hP
          clear hd
          go_wp2
          go_ret3
          exact ⟨a, _, true, rfl, Or.inl ⟨HV.out, by have h := HJ.out; rw [Int.mul_zero, Int.add_zero] at h; exact h⟩, Grown.refl _⟩
      · have hz : ((b - a).tmod D != 0) = true := by
          have : (b - a).tmod D ≠ 0 := fun h => hd (Int.dvd_of_tmod_eq_zero h)
          simp [this]
        have HJ : Hid (J m n a b 0 0 false) := by
          rw [HD.out] at hd
          exact Or.inr ⟨rfl, hd, rfl, rfl⟩
        clear hd
        go_wp2
        go_ret3
        exact ⟨0, 0, false, rfl, Or.inl ⟨HV.out, HJ.out⟩, Grown.refl _⟩

set_option maxHeartbeats 400000 in
theorem implJoin_any (a m b n : Int) (w : World) :
    Calls Try.prog 10 #[.int .i64 a, .int .i64 m, .int .i64 b, .int .i64 n] w (JRes m n a b w) := by
  cases hm : inB m 2 1000000
  · have H := Lib.hid (jv_no1 (n := n) (a := a) (b := b) hm)
    go_enter Try.func10, Try.ntmps10
    go_wp2_with (first | (go_at_call 19; refine (isModulus_any _ _).mono ?_; rintro e w' ⟨rfl, rfl⟩) | (go_at_call 20; refine (within_any _ _ _ _).mono ?_; rintro e w' ⟨rfl, rfl⟩))
    go_ret3
    exact JRes.no H.out (Grown.refl _)
  cases hn : inB n 2 1000000
  · have H := Lib.hid (jv_no2 (m := m) (a := a) (b := b) hn)
    go_enter Try.func10, Try.ntmps10
    go_wp2_with (first | (go_at_call 19; refine (isModulus_any _ _).mono ?_; rintro e w' ⟨rfl, rfl⟩) | (go_at_call 20; refine (within_any _ _ _ _).mono ?_; rintro e w' ⟨rfl, rfl⟩))
    go_ret3
    exact JRes.no H.out (Grown.refl _)
  obtain ⟨m0, m1⟩ := inB_iff.1 hm
  obtain ⟨n0, n1⟩ := inB_iff.1 hn
  cases ha : inB a 0 (m - 1)
  · have H := Lib.hid (jv_no3 (n := n) (b := b) ha)
    go_enter Try.func10, Try.ntmps10
    go_wp2_with (first | (go_at_call 19; refine (isModulus_any _ _).mono ?_; rintro e w' ⟨rfl, rfl⟩) | (go_at_call 20; refine (within_any _ _ _ _).mono ?_; rintro e w' ⟨rfl, rfl⟩))
    go_ret3
    exact JRes.no H.out (Grown.refl _)
  cases hb : inB b 0 (n - 1)
  · have H := Lib.hid (jv_no4 (m := m) (a := a) hb)
    go_enter Try.func10, Try.ntmps10
    go_wp2_with (first | (go_at_call 19; refine (isModulus_any _ _).mono ?_; rintro e w' ⟨rfl, rfl⟩) | (go_at_call 20; refine (within_any _ _ _ _).mono ?_; rintro e w' ⟨rfl, rfl⟩))
    go_ret3
    exact JRes.no H.out (Grown.refl _)
  exact implJoin_yes a m b n w hm hn ha hb

set_option maxHeartbeats 400000 in
theorem specJoin_any (a m b n : Int) (w : World) :
    Calls Try.prog 13 #[.int .i64 a, .int .i64 m, .int .i64 b, .int .i64 n] w (JRes m n a b w) := by
  cases hm : inB m 2 1000000
  · have H := Lib.hid (jv_no1 (n := n) (a := a) (b := b) hm)
    go_enter Try.func13, Try.ntmps13
    go_wp2_with (first | (go_at_call 21; refine (l04Modulus_any _ _).mono ?_; rintro e w' ⟨rfl, rfl⟩) | (go_at_call 22; refine (l00In_any _ _ _ _).mono ?_; rintro e w' ⟨rfl, rfl⟩))
    go_ret3
    exact JRes.no H.out (Grown.refl _)
  cases hn : inB n 2 1000000
  · have H := Lib.hid (jv_no2 (m := m) (a := a) (b := b) hn)
    go_enter Try.func13, Try.ntmps13
    go_wp2_with (first | (go_at_call 21; refine (l04Modulus_any _ _).mono ?_; rintro e w' ⟨rfl, rfl⟩) | (go_at_call 22; refine (l00In_any _ _ _ _).mono ?_; rintro e w' ⟨rfl, rfl⟩))
    go_ret3
    exact JRes.no H.out (Grown.refl _)
  obtain ⟨m0, m1⟩ := inB_iff.1 hm
  obtain ⟨n0, n1⟩ := inB_iff.1 hn
  cases ha : inB a 0 (m - 1)
  · have H := Lib.hid (jv_no3 (n := n) (b := b) ha)
    go_enter Try.func13, Try.ntmps13
    go_wp2_with (first | (go_at_call 21; refine (l04Modulus_any _ _).mono ?_; rintro e w' ⟨rfl, rfl⟩) | (go_at_call 22; refine (l00In_any _ _ _ _).mono ?_; rintro e w' ⟨rfl, rfl⟩))
    go_ret3
    exact JRes.no H.out (Grown.refl _)
  cases hb : inB b 0 (n - 1)
  · have H := Lib.hid (jv_no4 (m := m) (a := a) hb)
    go_enter Try.func13, Try.ntmps13
    go_wp2_with (first | (go_at_call 21; refine (l04Modulus_any _ _).mono ?_; rintro e w' ⟨rfl, rfl⟩) | (go_at_call 22; refine (l00In_any _ _ _ _).mono ?_; rintro e w' ⟨rfl, rfl⟩))
    go_ret3
    exact JRes.no H.out (Grown.refl _)
  exact specJoin_yes a m b n w hm hn ha hb

/-- Two calls with one list of arguments return one answer. -/
theorem JRes.same {m n a b : Int} {w w1 w2 w3 : World} {e e' : Ending} (h : JRes m n a b w e w1) (h' : JRes m n a b w2 e' w3) :
    ∃ c l : Int, ∃ ok : Bool, e = .returned (.tuple #[.int .i64 c, .int .i64 l, .bool ok]) ∧ e' = .returned (.tuple #[.int .i64 c, .int .i64 l, .bool ok]) := by
  obtain ⟨c, l, ok, he, hj, -⟩ := h
  obtain ⟨c', l', ok', he', hj', -⟩ := h'
  refine ⟨c, l, ok, he, ?_⟩
  rw [he']
  rcases hj with ⟨v, j⟩ | ⟨v, j1, j2, j3⟩ <;> rcases hj' with ⟨v', j'⟩ | ⟨v', j1', j2', j3'⟩
  · have hv : inB m 2 1000000 = true ∧ inB n 2 1000000 = true := by
      unfold jvB at v
      simp at v
      exact ⟨v.1.1.1, v.1.1.2⟩
    have hm := inB_iff.1 hv.1
    have hn := inB_iff.1 hv.2
    obtain ⟨rfl, rfl, rfl⟩ := J.one (by omega) (by omega) j j'
    rfl
  · rw [v] at v'; exact absurd v' (by simp)
  · rw [v] at v'; exact absurd v' (by simp)
  · rw [j1, j2, j3, j1', j2', j3']

end Go.Proofs.Ytgjajkcpdjmibaa
