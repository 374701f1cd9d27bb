/-
  The program's JoinResidues by its contract: an answer as the plain theory describes it, whatever the arguments; what was in memory stays as it was. No condition.
-/
import Derived.Test.YtgjajkcpdjmibaaInvc
import Derived.Deep.QuietTactic
import Derived.BigQuiet
namespace Go.Proofs.Ytgjajkcpdjmibaa
open Go.RowKit Num

theorem ret_iib {k : IntKind} {a b a' b' : Int} {p q : Bool} (h1 : a = b) (h2 : a' = b') (h3 : p = q) : Ending.returned (.tuple #[.int k a, .int k a', .bool p]) = .returned (.tuple #[.int k b, .int k b', .bool q]) := by rw [h1, h2, h3]

theorem grown_drewN {w wr : World} (h : Grown w wr) (n : Nat) : Grown w (wr.drewN n) := by
  induction n generalizing wr with
  | zero => exact h
  | succ n ih => exact ih h.drew

/-- Whether the four numbers are two moduli with a remainder each. -/
def jvB (m n a b : Int) : Bool := inB m 2 1000000 && inB n 2 1000000 && inB a 0 (m - 1) && inB b 0 (n - 1)

/-- What both functions return. -/
def JRes (m n a b : Int) (w : World) (e : Ending) (w' : World) : Prop :=
  ∃ c l : Int, ∃ ok : Bool, e = .returned (.tuple #[.int .i64 c, .int .i64 l, .bool ok]) ∧ ((jvB m n a b = true ∧ J m n a b c l ok) ∨ (jvB m n a b = false ∧ c = 0 ∧ l = 0 ∧ ok = false)) ∧ Grown w w'

theorem JRes.no {m n a b : Int} {w w' : World} (h : jvB m n a b = false) (g : Grown w w') : JRes m n a b w (.returned (.tuple #[.int .i64 0, .int .i64 0, .bool false])) w' :=
  ⟨0, 0, false, rfl, Or.inr ⟨h, rfl, rfl, rfl⟩, g⟩

theorem jv_no1 {m n a b : Int} (h : inB m 2 1000000 = false) : jvB m n a b = false := by unfold jvB; rw [h]; rfl
theorem jv_no2 {m n a b : Int} (h : inB n 2 1000000 = false) : jvB m n a b = false := by unfold jvB; rw [h]; simp
theorem jv_no3 {m n a b : Int} (h : inB a 0 (m - 1) = false) : jvB m n a b = false := by unfold jvB; rw [h]; simp
theorem jv_no4 {m n a b : Int} (h : inB b 0 (n - 1) = false) : jvB m n a b = false := by unfold jvB; rw [h]; simp
theorem jv_yes {m n a b : Int} (h1 : inB m 2 1000000 = true) (h2 : inB n 2 1000000 = true) (h3 : inB a 0 (m - 1) = true) (h4 : inB b 0 (n - 1) = true) : jvB m n a b = true := by unfold jvB; simp [h1, h2, h3, h4]

/-- A round of the Euclidean algorithm. -/
structure GI (m n d e : Int) : Prop where
  d0 : 0 < d
  d1 : d ≤ 1000000
  e0 : 0 ≤ e
  e1 : e ≤ 1000000
  g : Int.gcd d e = Int.gcd m n

theorem GI.step {m n d e : Int} (h : GI m n d e) (he : 0 < e) : GI m n e (d % e) := by
  have r1 := Int.emod_lt_of_pos d he
  have r2 := Int.emod_nonneg d (Int.ne_of_gt he)
  have e1 := h.e1
  refine ⟨he, h.e1, r2, by omega, ?_⟩
  rw [Int.emod_def, Int.gcd_sub_mul_left_right, Int.gcd_comm]
  exact h.g

theorem GI.last {m n d : Int} (h : GI m n d 0) : d = (Int.gcd m n : Int) := by
  have hg := h.g
  have hd := h.d0
  rw [Int.gcd_zero_right] at hg
  omega

theorem lcm_of {m n D : Int} (hm : 0 < m) (hD : D = (Int.gcd m n : Int)) : m / D * n = m * (n / D) ∧ m / D * n = m / (Int.gcd m n : Int) * n := by
  have hd := gcd_pos (n := n) hm
  have h1 := Int.gcd_dvd_left m n
  have h2 := Int.gcd_dvd_right m n
  rw [← hD] at h1 h2 hd
  refine ⟨?_, by rw [hD]⟩
  obtain ⟨u, hu⟩ := h1
  obtain ⟨v, hv⟩ := h2
  have hu' : m / D = u := by rw [hu, Int.mul_ediv_cancel_left _ (by omega)]
  have hv' : n / D = v := by rw [hv, Int.mul_ediv_cancel_left _ (by omega)]
  rw [hu', hv']
  rw [hu, hv, ← Int.mul_assoc, Int.mul_comm u D]

/-- What holds of the number that the search has come to. -/
def Seek (m n a b D C : Int) : Prop := ∃ k, 0 ≤ k ∧ k ≤ n / D ∧ C = a + m * k ∧ ∀ j, 0 ≤ j → j < k → (a + m * j) % n ≠ b

theorem Seek.start {m n a b D : Int} (hn : 0 < n) (hD : 0 < D) : Seek m n a b D a :=
  ⟨0, by omega, Int.ediv_nonneg (by omega) (by omega), by omega, fun j h1 h2 => by omega⟩

theorem Seek.bounds {m n a b D C A : Int} (hm : 0 < m) (a0 : 0 ≤ a) (hA : A = m * (n / D)) (h : Seek m n a b D C) : 0 ≤ C ∧ C ≤ A + a := by
  obtain ⟨k, k0, k1, rfl, -⟩ := h
  have t1 : 0 ≤ m * k := Int.mul_nonneg (by omega) k0
  have t2 : m * k ≤ m * (n / D) := Int.mul_le_mul_of_nonneg_left k1 (by omega)
  omega

theorem Seek.lt {m n a D A k : Int} (hm : 0 < m) (a0 : 0 ≤ a) (hA : A = m * (n / D)) (h : a + m * k < A) : k < n / D := by
  refine Int.not_le.1 fun hk => ?_
  have t2 : m * (n / D) ≤ m * k := Int.mul_le_mul_of_nonneg_left hk (by omega)
  omega

theorem Seek.hit {m n a b D C A : Int} (hm : 0 < m) (a0 : 0 ≤ a) (hD : D = (Int.gcd m n : Int)) (hA : A = m * (n / D)) (hl : A = m / (Int.gcd m n : Int) * n) (h : Seek m n a b D C) (hC : C < A) (hb : C % n = b) : J m n a b C A true := by
  obtain ⟨k, k0, k1, rfl, -⟩ := h
  have kl := Seek.lt hm a0 hA hC
  rw [hD] at kl
  exact Or.inl ⟨rfl, dvd_of_both hb, hl, k, k0, kl, rfl, hb⟩

theorem Seek.next {m n a b D C A : Int} (hm : 0 < m) (a0 : 0 ≤ a) (hA : A = m * (n / D)) (h : Seek m n a b D C) (hC : C < A) (hb : C % n ≠ b) : Seek m n a b D (C + m) := by
  obtain ⟨k, k0, k1, rfl, hj⟩ := h
  have kl := Seek.lt hm a0 hA hC
  refine ⟨k + 1, by omega, by omega, by rw [Int.mul_add]; omega, fun j j0 j1 => ?_⟩
  by_cases e : j = k
  · subst e; exact hb
  · exact hj j j0 (by omega)

theorem Seek.fin {m n a b D C A : Int} (hm : 0 < m) (hn : 0 < n) (a1 : a < m) (b0 : 0 ≤ b) (b1 : b < n) (hD : D = (Int.gcd m n : Int)) (hA : A = m * (n / D)) (h : Seek m n a b D C) (hC : ¬ C < A) : J m n a b 0 0 false := by
  obtain ⟨k, k0, k1, rfl, hj⟩ := h
  refine Or.inr ⟨rfl, fun hd => ?_, rfl, rfl⟩
  obtain ⟨s0, s1, s2⟩ := steps_hit hm hn b0 b1 hd
  rw [← hD] at s1
  refine hj _ s0 ?_ s2
  refine Int.lt_of_lt_of_le s1 ?_
  refine Int.not_lt.1 fun hk => ?_
  have t2 : m * (k + 1) ≤ m * (n / D) := Int.mul_le_mul_of_nonneg_left (by omega) (by omega)
  rw [Int.mul_add] at t2
  omega

set_option maxHeartbeats 400000 in
theorem implJoin_yes (a m b n : Int) (w : World) (hm : inB m 2 1000000 = true) (hn : inB n 2 1000000 = true) (ha : inB a 0 (m - 1) = true) (hb : inB b 0 (n - 1) = true) :
    Calls Try.prog 10 #[.int .i64 a, .int .i64 m, .int .i64 b, .int .i64 n] w (JRes m n a b w) := by
  obtain ⟨m0, m1⟩ := inB_iff.1 hm
  obtain ⟨n0, n1⟩ := inB_iff.1 hn
  obtain ⟨a0, a1⟩ := inB_iff.1 ha
  obtain ⟨b0, b1⟩ := inB_iff.1 hb
  have HV := Lib.hid (jv_yes hm hn ha hb)
  go_enter Try.func10, Try.ntmps10
  go_wp2_with (first | (go_at_call 19; refine (isModulus_any _ _).mono ?_; rintro e w' ⟨rfl, rfl⟩) | (go_at_call 20; refine (within_any _ _ _ _).mono ?_; rintro e w' ⟨rfl, rfl⟩))
  go_loopg [11, 12] (n.toNat) (fun k d e wr => ∃ D E : Int, k = E.toNat ∧ d = .int .i64 D ∧ e = .int .i64 E ∧ GI m n D E ∧ Grown w wr)
  case atStart => exact ⟨m, n, rfl, rfl, rfl, ⟨by omega, m1, by omega, n1, rfl⟩, Grown.refl _⟩
  case round =>
    obtain ⟨D, E, rfl, rfl, rfl, hG, hW⟩ := hrel
    have g1 := hG.d0
    have g2 := hG.d1
    have g3 := hG.e0
    have g4 := hG.e1
    have HW := Lib.hid hW
    clear hW
    by_cases hE : 0 < E
    · have hE0 : (E != 0) = true := by
        have : E ≠ 0 := by omega
        simp [this]
      go_wp2
      go_quiet (fail)
      go_wp2
      have z5 := Int.emod_lt_of_pos D hE
      go_roundg (D % E).toNat
      case measure => have z6 := Int.emod_nonneg D (Int.ne_of_gt hE); omega
      case rel => exact ⟨E, _, rfl, rfl, rfl, hG.step hE, grown_drewN HW.out _⟩
    · have hE0 : (E != 0) = false := by
        have : E = 0 := by omega
        simp [this]
      have hD : D = (Int.gcd m n : Int) := by
        have : E = 0 := by omega
        subst this
        exact hG.last
      have HD := Lib.hid hD
      clear hD
      -- the least common multiple
      have l1 : 0 ≤ m / D := Int.ediv_nonneg (by omega) (by omega)
      have l2 : m / D ≤ m := Int.ediv_le_self _ (by omega)
      have l3 : 0 ≤ m / D * n := Int.mul_nonneg l1 (by omega)
      have l4 : m / D * n ≤ 1000000000000 := by
        have := Int.mul_le_mul (show m / D ≤ 1000000 by omega) n1 (by omega) (by omega)
        omega
      have HL := Lib.hid (lcm_of (m := m) (n := n) (D := D) (by omega) HD.out)
      generalize hA : m / D * n = A at *
      go_wp2
      go_loop [14] (fun c => ∃ C : Int, c = .int .i64 C ∧ Seek m n a b D C) (fun c => (A - intOf c).toNat)
      case atStart => exact ⟨a, rfl, Seek.start (by omega) (by omega)⟩
      case round =>
        obtain ⟨C, rfl, hS⟩ := hrel
        obtain ⟨c0, c1⟩ := Seek.bounds (by omega) a0 HL.out.1 hS
        by_cases hC : C < A
        · by_cases hh : C % n = b
          · have HJ := Lib.hid (Seek.hit (by omega) a0 HD.out HL.out.1 HL.out.2 hS hC hh)
            have hh1 : (C % n == b) = true := by simp [hh]
            clear hh hS
            go_wp2
            go_ret3
            exact ⟨C, A, true, rfl, Or.inl ⟨HV.out, HJ.out⟩, HW.out⟩
          · have HJ := Lib.hid (Seek.next (by omega) a0 HL.out.1 hS hC hh)
            have hh1 : (C % n == b) = false := by simp [hh]
            clear hh hS
            go_wp2
            go_round
            case rel => exact ⟨C + m, rfl, HJ.out⟩
            case measure => simp [intOf]; omega
        · have HJ := Lib.hid (Seek.fin (by omega) (by omega) (by omega) b0 (by omega) HD.out HL.out.1 hS hC)
          clear hS
          go_wp2
          go_ret3
          exact ⟨0, 0, false, rfl, Or.inl ⟨HV.out, HJ.out⟩, HW.out⟩

end Go.Proofs.Ytgjajkcpdjmibaa
