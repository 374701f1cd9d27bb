/-
  What a slice of bytes that came in offers to the law on joined residues, and the law's own walk: it returns true for all bytes. No condition.
-/
import Derived.Test.YtgjajkcpdjmibaaJoinb
namespace Go.Proofs.Ytgjajkcpdjmibaa
open Go.RowKit Num
set_option linter.unusedVariables false

/-- A slice of bytes in memory: its cells hold bytes. -/
def BV (w : World) (ao : Option Addr) (len : Nat) : Prop :=
  (ao = none → len = 0) ∧ ∀ b o, ao = some ⟨b, o, none⟩ → ∀ t, t < len → ∃ z : Int, 0 ≤ z ∧ z ≤ 255 ∧ w.cell? ⟨b, o + t, none⟩ = some (.int .u8 z)

/-- A bool is returned. -/
def SomeBool (e : Ending) : Prop := ∃ r : Bool, e = .returned (.bool r)
/-- A number from 0 to n - 1 is returned. -/
def SomeLess (n : Int) (e : Ending) : Prop := ∃ r : Int, 0 ≤ r ∧ r < n ∧ e = .returned (.int .i64 r)

set_option maxHeartbeats 400000 in
theorem r8Long_any (ao bo : Option Addr) (la ca lb cb : Nat) (w : World) (ha : la ≤ 9223372036854775807) (hb : lb ≤ 9223372036854775807) :
    Calls Try.prog 8 #[.slice ao la ca, .slice bo lb cb] w fun e w' => SomeBool e ∧ w = w' := by
  by_cases h1 : (48 : Int) < (la : Int)
  · go_enter Try.func8, Try.ntmps8
    go_wp2
    go_ret
    exact ⟨⟨_, rfl⟩, rfl⟩
  · by_cases h2 : (48 : Int) < (lb : Int)
    · go_enter Try.func8, Try.ntmps8
      go_wp2
      go_ret
      exact ⟨⟨_, rfl⟩, rfl⟩
    · go_enter Try.func8, Try.ntmps8
      go_wp2
      go_ret
      exact ⟨⟨_, rfl⟩, rfl⟩

set_option maxHeartbeats 400000 in
theorem r8At_any (ao : Option Addr) (len cap : Nat) (k : Nat) (n : Int) (w : World) (hs : ∀ b o s, ao = some ⟨b, o, s⟩ → 0 < len → s = none) (hv : BV w ao len) (hl : len ≤ 9223372036854775807) (hk : k ≤ 1000) (hn : 2 ≤ n) (hn1 : n ≤ 1000) :
    Calls Try.prog 9 #[.slice ao len cap, .int .i64 k, .int .i64 n] w fun e w' => SomeLess n e ∧ w = w' := by
  by_cases h1 : len ≤ k
  · go_enter Try.func9, Try.ntmps9
    go_wp2
    go_ret
    exact ⟨⟨0, by omega, by omega, rfl⟩, rfl⟩
  · obtain ⟨⟨b, o, s⟩, rfl⟩ : ∃ ad, ao = some ad := by
      cases ao with
      | none => exact absurd (hv.1 rfl) (by omega)
      | some ad => exact ⟨ad, rfl⟩
    obtain rfl := hs b o s rfl (by omega)
    obtain ⟨z, z0, z1, hz⟩ := hv.2 b o rfl k (by omega)
    have hlt : (k : Int) < (len : Int) := by omega
    clear hv hs
    have r1 := Int.emod_nonneg z (show n ≠ 0 by omega)
    have r2 := Int.emod_lt_of_pos z (show 0 < n by omega)
    go_enter Try.func9, Try.ntmps9
    go_wp2
    go_ret
    exact ⟨⟨_, r1, r2, rfl⟩, rfl⟩

/-- What the law asks of an answer. -/
theorem j_law {m n a b c l : Int} {ok : Bool} (hm : 0 < m) (hn : 0 < n) (a0 : 0 ≤ a) (a1 : a < m) (h : J m n a b c l ok) :
    (ok = ((a - b).tmod (Int.gcd m n : Int) == 0)) ∧ (ok = true → l = m / (Int.gcd m n : Int) * n ∧ 0 ≤ c ∧ c < l ∧ c % m = a ∧ c % n = b) := by
  rcases h with ⟨o, d, hl, k, k0, k1, hc, hb⟩ | ⟨o, d, hc, hl⟩
  · refine ⟨?_, fun _ => ?_⟩
    · have d' : (Int.gcd m n : Int) ∣ a - b := by
        have e : a - b = -(b - a) := by omega
        rw [e]; exact Int.dvd_neg.2 d
      rw [o, Int.tmod_eq_zero_of_dvd d']; rfl
    · have t1 : 0 ≤ m * k := Int.mul_nonneg (by omega) k0
      have hl2 := (lcm_of (n := n) hm rfl).1
      have t2 : m * (k + 1) ≤ m * (n / (Int.gcd m n : Int)) := Int.mul_le_mul_of_nonneg_left (by omega) (by omega)
      rw [Int.mul_add] at t2
      refine ⟨hl, by omega, by omega, ?_, hb⟩
      rw [hc, Int.add_mul_emod_self_left]
      exact Int.emod_eq_of_lt a0 a1
  · refine ⟨?_, fun h => by rw [o] at h; exact absurd h (by simp)⟩
    have hne : (a - b).tmod (Int.gcd m n : Int) ≠ 0 := fun h => d (by
      have e : b - a = -(a - b) := by omega
      rw [e]; exact Int.dvd_neg.2 (Int.dvd_of_tmod_eq_zero h))
    rw [o]
    simp [hne]

set_option maxHeartbeats 1000000 in
theorem joined_walk (ao bo : Option Addr) (la ca lb cb : Nat) (w : World) (hs : ∀ b o s, ao = some ⟨b, o, s⟩ → 0 < la → s = none) (hv : BV w ao la) (hs2 : ∀ b o s, bo = some ⟨b, o, s⟩ → 0 < lb → s = none) (hv2 : BV w bo lb) (ha : la ≤ 9223372036854775807) (hb : lb ≤ 9223372036854775807) :
    Calls Try.prog 4 #[.slice ao la ca, .slice bo lb cb] w fun e w' => e = .returned (.bool true) ∧ Grown w w' := by
  go_enter Try.func4, Try.ntmps4
  go_wp2_with fail
  refine (r8Long_any _ _ _ _ _ _ _ ha hb).mono ?_
  rintro e w1 ⟨⟨r, rfl⟩, rfl⟩
  cases r
  case true =>
    go_wp2
    go_ret
    exact ⟨rfl, Grown.refl _⟩
  case false =>
    go_wp2_with fail
    refine (r8At_any _ _ _ 0 90 _ hs hv ha (by omega) (by omega) (by omega)).mono ?_
    rintro e w1 ⟨⟨m, m0, m1, rfl⟩, rfl⟩
    go_wp2_with fail
    refine (r8At_any _ _ _ 1 90 _ hs hv ha (by omega) (by omega) (by omega)).mono ?_
    rintro e w1 ⟨⟨n, n0, n1, rfl⟩, rfl⟩
    go_wp2_with fail
    refine (r8At_any _ _ _ 0 _ _ hs2 hv2 hb (by omega) (by omega) (by omega)).mono ?_
    rintro e w1 ⟨⟨a, a0, a1, rfl⟩, rfl⟩
    go_wp2_with fail
    refine (r8At_any _ _ _ 1 _ _ hs2 hv2 hb (by omega) (by omega) (by omega)).mono ?_
    rintro e w1 ⟨⟨b, b0, b1, rfl⟩, rfl⟩
    go_wp2_with fail
    refine (implJoin_any _ _ _ _ _).mono ?_
    rintro e w1 ⟨c, l, ok, rfl, hj, hg⟩
    have HG := Lib.hid hg
    clear hg
    have g1 : 2 ≤ 2 + m := by omega
    have g2 : 2 + m ≤ 91 := by omega
    have g3 : 2 ≤ 2 + n := by omega
    have g4 : 2 + n ≤ 91 := by omega
    generalize 2 + m = M at *
    generalize 2 + n = N at *
    have hj2 : J M N a b c l ok := by
      rcases hj with ⟨_, hj⟩ | ⟨v, _⟩
      · exact hj
      · rw [jv_yes (inB_yes ⟨by omega, by omega⟩) (inB_yes ⟨by omega, by omega⟩) (inB_yes ⟨by omega, by omega⟩) (inB_yes ⟨by omega, by omega⟩)] at v
        exact absurd v (by simp)
    clear hj
    have HJ := Lib.hid (j_law (by omega) (by omega) a0 a1 hj2)
    clear hj2 m0 m1 n0 n1
    go_wp2
    go_loop [12, 13] (fun g x => ∃ D E : Int, g = .int .i64 D ∧ x = .int .i64 E ∧ GI M N D E) (fun _ x => (intOf x).toNat)
    case atStart => exact ⟨M, N, rfl, rfl, ⟨by omega, by omega, by omega, by omega, rfl⟩⟩
    case round =>
      obtain ⟨D, E, rfl, rfl, hG⟩ := hrel
      have d1 := hG.d0
      have d2 := hG.d1
      have d3 := hG.e0
      have d4 := hG.e1
      by_cases hE : 0 < E
      · go_wp2
        have z5 := Int.emod_lt_of_pos D hE
        have z6 := Int.emod_nonneg D (Int.ne_of_gt hE)
        go_round
        case rel => exact ⟨E, _, rfl, rfl, hG.step hE⟩
        case measure => simp [intOf]; omega
      · have hD : D = (Int.gcd M N : Int) := by
          have : E = 0 := by omega
          subst this
          exact hG.last
        clear hG
        rw [← hD] at HJ
        obtain ⟨j1, j2⟩ := HJ.out
        clear HJ hD
        cases ok
        case false =>
          have j3 := j1.symm
          clear j1 j2
          go_wp2
          go_ret
          exact ⟨rfl, HG.out⟩
        case true =>
          have j3 := j1.symm
          obtain ⟨k1, k2, k3, k4, k5⟩ := j2 rfl
          clear j1 j2
          have k6 : 0 ≤ M / D := Int.ediv_nonneg (by omega) (by omega)
          have k7 : M / D ≤ M := Int.ediv_le_self _ (by omega)
          have k8 : 0 ≤ M / D * N := Int.mul_nonneg k6 (by omega)
          have k9 : M / D * N ≤ 8281 := by
            have := Int.mul_le_mul (show M / D ≤ 91 by omega) g4 (by omega) (by omega)
            omega
          have q1 : (l == M / D * N) = true := by simp [k1]
          have q2 : (c % M == a) = true := by simp [k4]
          have q3 : (c % N == b) = true := by simp [k5]
          clear k1 k4 k5
          go_wp2
          go_ret
          exact ⟨rfl, HG.out⟩

end Go.Proofs.Ytgjajkcpdjmibaa
