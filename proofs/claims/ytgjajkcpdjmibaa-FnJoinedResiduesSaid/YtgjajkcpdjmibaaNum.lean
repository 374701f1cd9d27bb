/-
  Plain number theory, no program in sight: the extended Euclidean algorithm on two integers gives their greatest common divisor and a factor, both within the modulus; joining two residues has at most one answer, and one whenever the difference is a multiple of the common divisor. No condition beyond those typed.
-/
import Derived.IntWalk
namespace Go.Proofs.Ytgjajkcpdjmibaa.Num

/-- The extended Euclidean algorithm: the last divisor, and the factor beside it. -/
def eg (b s x y : Int) : Int × Int := if 0 < s then eg s (b - b / s * s) y (x - b / s * y) else (b, x)
termination_by s.toNat
decreasing_by
  rename_i h
  have h1 := Int.emod_lt_of_pos b h
  have h3 := Int.emod_def b s
  have h4 := Int.mul_comm s (b / s)
  omega

theorem eg_pos {b s x y : Int} (h : 0 < s) : eg b s x y = eg s (b - b / s * s) y (x - b / s * y) := by
  rw [eg, if_pos h]

theorem eg_zero {b s x y : Int} (h : ¬ 0 < s) : eg b s x y = (b, x) := by
  rw [eg, if_neg h]

/-- What holds of the four numbers in every round. -/
structure EI (m a b s x y : Int) : Prop where
  s0 : 0 ≤ s
  b0 : 0 < b
  bm : b ≤ m
  sm : s ≤ m
  g : Int.gcd b s = Int.gcd m a
  dx : m ∣ x * a - b
  dy : m ∣ y * a - s
  x1 : -m ≤ x
  x2 : x ≤ m
  y1 : -m ≤ y
  y2 : y ≤ m
  sg : (x ≤ 0 ∧ 0 ≤ y ∧ b * y - s * x = m) ∨ (0 ≤ x ∧ y ≤ 0 ∧ s * x - b * y = m)

theorem EI.start {m a : Int} (hm : 0 < m) (h0 : 0 ≤ a) (h1 : a ≤ m) : EI m a m a 0 1 where
  s0 := h0
  b0 := hm
  bm := Int.le_refl _
  sm := h1
  g := rfl
  dx := ⟨-1, by omega⟩
  dy := ⟨0, by omega⟩
  x1 := by omega
  x2 := by omega
  y1 := by omega
  y2 := by omega
  sg := Or.inl ⟨by omega, by omega, by omega⟩

theorem quo_bounds {b s : Int} (hs : 0 < s) (hb : 0 < b) : 0 ≤ b / s ∧ b / s ≤ b ∧ 0 ≤ b / s * s ∧ b / s * s ≤ b ∧ b - b / s * s = b % s := by
  have h1 := Int.emod_lt_of_pos b hs
  have h2 := Int.emod_nonneg b (Int.ne_of_gt hs)
  have h3 := Int.emod_def b s
  have h4 := Int.mul_comm s (b / s)
  have h5 : 0 ≤ b / s := Int.ediv_nonneg (by omega) (by omega)
  have h6 : b / s ≤ b := Int.ediv_le_self _ (by omega)
  have h7 : 0 ≤ b / s * s := Int.mul_nonneg h5 (by omega)
  exact ⟨h5, h6, h7, by omega, by omega⟩

theorem mul_le_of {a b m : Int} (h : a * b ≤ m) (ha : 0 < a) (hb : 0 ≤ b) : b ≤ m := by
  have h1 : 1 * b ≤ a * b := Int.mul_le_mul_of_nonneg_right (by omega) hb
  omega

theorem EI.step {m a b s x y : Int} (h : EI m a b s x y) (hs : 0 < s) : EI m a s (b - b / s * s) y (x - b / s * y) := by
  obtain ⟨s0, b0, bm, sm, g, dx, dy, x1, x2, y1, y2, sg⟩ := h
  obtain ⟨q0, q1, q2, q3, q4⟩ := quo_bounds hs b0
  have r1 := Int.emod_lt_of_pos b hs
  have r2 := Int.emod_nonneg b (Int.ne_of_gt hs)
  generalize hq : b / s = q at *
  have e1 : (x - q * y) * a - (b - q * s) = (x * a - b) - q * (y * a - s) := by
    rw [Int.sub_mul, Int.mul_sub, Int.mul_assoc]; omega
  have sgn : (0 ≤ y ∧ x - q * y ≤ 0 ∧ (b - q * s) * y - s * (x - q * y) = m) ∨ (y ≤ 0 ∧ 0 ≤ x - q * y ∧ s * (x - q * y) - (b - q * s) * y = m) := by
    have e2 : (b - q * s) * y - s * (x - q * y) = b * y - s * x := by
      have t1 : q * s * y = s * (q * y) := by rw [Int.mul_comm q s, Int.mul_assoc]
      rw [Int.sub_mul, Int.mul_sub, t1]; omega
    rcases sg with ⟨a1, a2, a3⟩ | ⟨a1, a2, a3⟩
    · have := Int.mul_nonneg q0 a2
      exact Or.inl ⟨a2, by omega, by omega⟩
    · have t2 := Int.mul_nonneg q0 (show 0 ≤ -y by omega)
      rw [Int.mul_neg] at t2
      exact Or.inr ⟨a2, by omega, by omega⟩
  have bnd : -m ≤ x - q * y ∧ x - q * y ≤ m := by
    rcases sgn with ⟨a1, a2, a3⟩ | ⟨a1, a2, a3⟩
    · have t1 : 0 ≤ (b - q * s) * y := Int.mul_nonneg (by omega) a1
      have t2 : s * (-(x - q * y)) ≤ m := by rw [Int.mul_neg]; omega
      have := mul_le_of t2 hs (by omega)
      exact ⟨by omega, by omega⟩
    · have t1 : 0 ≤ (b - q * s) * (-y) := Int.mul_nonneg (by omega) (by omega)
      rw [Int.mul_neg] at t1
      have t2 : s * (x - q * y) ≤ m := by omega
      have := mul_le_of t2 hs (by omega)
      exact ⟨by omega, by omega⟩
  refine ⟨by omega, hs, sm, by omega, ?_, dy, ?_, y1, y2, bnd.1, bnd.2, ?_⟩
  · have t := Int.gcd_sub_mul_right_right s b q
    rw [t, Int.gcd_comm]; exact g
  · rw [e1]; exact Int.dvd_sub dx (Int.dvd_mul_of_dvd_right dy)
  · rcases sgn with ⟨a1, a2, a3⟩ | ⟨a1, a2, a3⟩
    · refine Or.inr ⟨a1, a2, by omega⟩
    · refine Or.inl ⟨a1, a2, by omega⟩

/-- The products of a round stay small. -/
theorem EI.small {m a b s x y : Int} (h : EI m a b s x y) (hs : 0 < s) : -(m * m) ≤ b / s * y ∧ b / s * y ≤ m * m := by
  obtain ⟨q0, q1, q2, q3, q4⟩ := quo_bounds hs h.b0
  have b1 := h.bm
  have y1 := h.y1
  have y2 := h.y2
  have t1 : b / s * y ≤ b / s * m := Int.mul_le_mul_of_nonneg_left y2 q0
  have t2 : b / s * m ≤ m * m := Int.mul_le_mul_of_nonneg_right (by omega) (by omega)
  have t3 : b / s * (-m) ≤ b / s * y := Int.mul_le_mul_of_nonneg_left y1 q0
  rw [Int.mul_neg] at t3
  omega

theorem eg_last {m a b s x y : Int} (n : Nat) (hn : s.toNat ≤ n) (h : EI m a b s x y) : ∃ y', EI m a (eg b s x y).1 0 (eg b s x y).2 y' := by
  induction n generalizing b s x y with
  | zero =>
    have h0 := h.s0
    obtain rfl : s = 0 := by omega
    rw [eg_zero (by omega)]
    exact ⟨y, h⟩
  | succ n ih =>
    by_cases hs : 0 < s
    · rw [eg_pos hs]
      obtain ⟨q0, q1, q2, q3, q4⟩ := quo_bounds hs h.b0
      have r1 := Int.emod_lt_of_pos b hs
      exact ih (by omega) (h.step hs)
    · have h0 := h.s0
      obtain rfl : s = 0 := by omega
      rw [eg_zero hs]
      exact ⟨y, h⟩

/-- The greatest common divisor that the algorithm ends with. -/
def eg1 (m a : Int) : Int := (eg m a 0 1).1
/-- The factor that it ends with. -/
def eg2 (m a : Int) : Int := (eg m a 0 1).2

theorem eg_res {m a : Int} (hm : 0 < m) (h0 : 0 ≤ a) (h1 : a ≤ m) : eg1 m a = (Int.gcd m a : Int) ∧ m ∣ eg2 m a * a - eg1 m a ∧ -m ≤ eg2 m a ∧ eg2 m a ≤ m ∧ 0 < eg1 m a ∧ eg1 m a ≤ m := by
  obtain ⟨y, h⟩ := eg_last a.toNat (Nat.le_refl _) (EI.start hm h0 h1)
  have hg := h.g
  have hb := h.b0
  rw [Int.gcd_zero_right] at hg
  unfold eg1 eg2
  exact ⟨by omega, h.dx, h.x1, h.x2, hb, h.bm⟩

/-- The remainder, from 0 to m - 1, of the factor. -/
def inv (m a : Int) : Int := eg2 m a % m

theorem inv_bounds {m a : Int} (hm : 0 < m) : 0 ≤ inv m a ∧ inv m a < m :=
  ⟨Int.emod_nonneg _ (by omega), Int.emod_lt_of_pos _ hm⟩

theorem inv_dvd {m a : Int} (hm : 0 < m) (h0 : 0 ≤ a) (h1 : a ≤ m) : m ∣ inv m a * a - eg1 m a := by
  obtain ⟨_, h, _⟩ := eg_res hm h0 h1
  have e : inv m a * a - eg1 m a = (eg2 m a * a - eg1 m a) - m * (eg2 m a / m * a) := by
    unfold inv
    rw [Int.emod_def, Int.sub_mul, ← Int.mul_assoc]; omega
  rw [e]
  exact Int.dvd_sub h (Int.dvd_mul_right _ _)

/-- Where the divisor is 1 the remainder isn't 0. -/
theorem inv_ne {m a : Int} (hm : 2 ≤ m) (h0 : 0 ≤ a) (h1 : a ≤ m) (hg : eg1 m a = 1) : inv m a ≠ 0 := by
  intro h
  have hd := inv_dvd (by omega) h0 h1
  rw [h, hg, Int.zero_mul] at hd
  have := Int.le_of_dvd (by omega) (Int.dvd_neg.2 hd)
  omega

theorem tmod_twice {x m : Int} (hm : 0 < m) : (x.tmod m + m).tmod m = x % m := by
  have h1 := Int.lt_tmod_of_pos x hm
  have h2 := Int.tmod_lt_of_pos x hm
  rw [Int.tmod_eq_emod_of_nonneg (by omega)]
  have e := Int.tmod_def x m
  rw [e, show x - m * x.tdiv m + m = x + m * (1 - x.tdiv m) by rw [Int.mul_sub]; omega, Int.add_mul_emod_self_left]

/-! ### Joining two residues -/

/-- What an answer is: where the difference is a multiple of the common divisor, the number with both remainders below the least common multiple; otherwise nothing. -/
def J (m n a b c l : Int) (ok : Bool) : Prop :=
  (ok = true ∧ (Int.gcd m n : Int) ∣ b - a ∧ l = m / (Int.gcd m n : Int) * n ∧ ∃ k, 0 ≤ k ∧ k < n / (Int.gcd m n : Int) ∧ c = a + m * k ∧ c % n = b) ∨
  (ok = false ∧ ¬ (Int.gcd m n : Int) ∣ b - a ∧ c = 0 ∧ l = 0)

theorem gcd_pos {m n : Int} (hm : 0 < m) : 0 < (Int.gcd m n : Int) := by
  have h := Int.gcd_dvd_left m n
  have h1 : (Int.gcd m n : Int) ≠ 0 := by
    intro e
    rw [e] at h
    have := Int.zero_dvd.1 h
    omega
  omega

theorem cop {m n : Int} (hm : 0 < m) : Int.gcd (n / (Int.gcd m n : Int)) (m / (Int.gcd m n : Int) % (n / (Int.gcd m n : Int))) = 1 := by
  have hd := gcd_pos (n := n) hm
  have h1 := Int.gcd_dvd_left m n
  have h2 := Int.gcd_dvd_right m n
  generalize hg : (Int.gcd m n : Int) = d at *
  obtain ⟨u, hu⟩ := h1
  obtain ⟨v, hv⟩ := h2
  subst hu hv
  rw [Int.mul_ediv_cancel_left _ (by omega), Int.mul_ediv_cancel_left _ (by omega)]
  rw [Int.emod_def, Int.gcd_sub_mul_left_right, Int.gcd_comm]
  rw [Int.gcd_mul_left] at hg
  have hz : d.natAbs * Int.gcd u v = d.natAbs * 1 := by omega
  exact Nat.eq_of_mul_eq_mul_left (by omega) hz

/-- The factor with which the common divisor is reached. -/
theorem bez {m n : Int} (hm : 0 < m) (hn : 0 < n) :
    (n / (Int.gcd m n : Int)) ∣ inv (n / (Int.gcd m n : Int)) (m / (Int.gcd m n : Int) % (n / (Int.gcd m n : Int))) * (m / (Int.gcd m n : Int)) - 1 := by
  have hd := gcd_pos (n := n) hm
  have h2 := Int.gcd_dvd_right m n
  have hc := cop (n := n) hm
  have hp : 0 < n / (Int.gcd m n : Int) := Int.ediv_pos_of_pos_of_dvd hn (by omega) h2
  generalize (Int.gcd m n : Int) = d at *
  generalize n / d = p at *
  generalize m / d = u at *
  have r1 := Int.emod_nonneg u (Int.ne_of_gt hp)
  have r2 := Int.emod_lt_of_pos u hp
  have hg := (eg_res hp r1 (Int.le_of_lt r2)).1
  rw [hc] at hg
  have hi := inv_dvd hp r1 (Int.le_of_lt r2)
  rw [hg] at hi
  generalize inv p (u % p) = i at *
  have e : i * u - 1 = (i * (u % p) - ((1 : Nat) : Int)) + p * (i * (u / p)) := by
    rw [Int.emod_def, Int.mul_sub, ← Int.mul_assoc i p, Int.mul_comm i p, Int.mul_assoc p]; omega
  rw [e]
  exact Int.dvd_add hi (Int.dvd_mul_right _ _)

/-- If some number has both remainders, the difference is a multiple of the common divisor. -/
theorem dvd_of_both {m n a b k : Int} (h : (a + m * k) % n = b) : (Int.gcd m n : Int) ∣ b - a := by
  have h1 := Int.gcd_dvd_left m n
  have h2 := Int.gcd_dvd_right m n
  have e : b - a = m * k - n * ((a + m * k) / n) := by
    rw [← h, Int.emod_def]; omega
  rw [e]
  exact Int.dvd_sub (Int.dvd_mul_of_dvd_left h1) (Int.dvd_mul_of_dvd_left h2)

/-- Two numbers of steps that give one remainder are one, below the second modulus divided by the common divisor. -/
theorem one_k {m n a j k : Int} (hm : 0 < m) (hn : 0 < n) (h : (a + m * j) % n = (a + m * k) % n) (j0 : 0 ≤ j) (j1 : j < n / (Int.gcd m n : Int)) (k0 : 0 ≤ k) (k1 : k < n / (Int.gcd m n : Int)) : j = k := by
  have hd := gcd_pos (n := n) hm
  have h1 := Int.gcd_dvd_left m n
  have h2 := Int.gcd_dvd_right m n
  have hb := bez hm hn
  generalize (Int.gcd m n : Int) = d at *
  obtain ⟨u, hu⟩ := h1
  obtain ⟨v, hv⟩ := h2
  have hu' : m / d = u := by rw [hu, Int.mul_ediv_cancel_left _ (by omega)]
  have hv' : n / d = v := by rw [hv, Int.mul_ediv_cancel_left _ (by omega)]
  rw [hu', hv'] at hb
  rw [hv'] at j1 k1
  generalize inv v (u % v) = i at hb
  have hmk : n ∣ m * (j - k) := by
    have := Int.emod_emod_of_dvd
    have e : m * (j - k) = n * ((a + m * j) / n - (a + m * k) / n) := by
      have e1 := Int.emod_def (a + m * j) n
      have e2 := Int.emod_def (a + m * k) n
      rw [Int.mul_sub, Int.mul_sub]; omega
    rw [e]; exact Int.dvd_mul_right _ _
  have hvu : v ∣ u * (j - k) := by
    rw [hu, hv, Int.mul_assoc] at hmk
    exact Int.dvd_of_mul_dvd_mul_left (by omega) hmk
  have hjk : v ∣ j - k := by
    have e : j - k = i * (u * (j - k)) - (i * u - 1) * (j - k) := by
      rw [← Int.mul_assoc, Int.sub_mul]; omega
    rw [e]
    exact Int.dvd_sub (Int.dvd_mul_of_dvd_right hvu) (Int.dvd_mul_of_dvd_left hb)
  obtain ⟨t, ht⟩ := hjk
  have hv0 : 0 < v := by omega
  have t0 : t = 0 := by
    by_cases h0 : 0 < t
    · have := Int.mul_le_mul_of_nonneg_left (show 1 ≤ t by omega) (Int.le_of_lt hv0)
      omega
    · by_cases h00 : t < 0
      · have := Int.mul_le_mul_of_nonneg_left (show t ≤ -1 by omega) (Int.le_of_lt hv0)
        omega
      · omega
  rw [t0] at ht
  omega

/-- The number of steps that the reference reckons. -/
def steps (m n a b : Int) : Int :=
  (b - a) / (Int.gcd m n : Int) % (n / (Int.gcd m n : Int)) * inv (n / (Int.gcd m n : Int)) (m / (Int.gcd m n : Int) % (n / (Int.gcd m n : Int))) % (n / (Int.gcd m n : Int))

theorem steps_hit {m n a b : Int} (hm : 0 < m) (hn : 0 < n) (b0 : 0 ≤ b) (b1 : b < n) (h : (Int.gcd m n : Int) ∣ b - a) :
    0 ≤ steps m n a b ∧ steps m n a b < n / (Int.gcd m n : Int) ∧ (a + m * steps m n a b) % n = b := by
  have hd := gcd_pos (n := n) hm
  have h1 := Int.gcd_dvd_left m n
  have h2 := Int.gcd_dvd_right m n
  have hb := bez hm hn
  unfold steps
  generalize (Int.gcd m n : Int) = d at *
  obtain ⟨u, hu⟩ := h1
  obtain ⟨v, hv⟩ := h2
  obtain ⟨z, hz⟩ := h
  have hu' : m / d = u := by rw [hu, Int.mul_ediv_cancel_left _ (by omega)]
  have hv' : n / d = v := by rw [hv, Int.mul_ediv_cancel_left _ (by omega)]
  have hz' : (b - a) / d = z := by rw [hz, Int.mul_ediv_cancel_left _ (by omega)]
  rw [hu', hv'] at hb
  rw [hu', hv', hz']
  generalize inv v (u % v) = i at *
  have hv0 : 0 < v := by
    by_cases h0 : 0 < v
    · exact h0
    · have := Int.mul_nonneg (Int.le_of_lt hd) (show 0 ≤ -v by omega)
      rw [Int.mul_neg] at this
      omega
  refine ⟨Int.emod_nonneg _ (by omega), Int.emod_lt_of_pos _ hv0, ?_⟩
  -- (z % v * i) % v = z * i - v * w
  obtain ⟨w, hw⟩ : ∃ w, z % v * i % v = z * i - v * w := by
    refine ⟨z % v * i / v + z / v * i, ?_⟩
    rw [Int.emod_def (z % v * i) v, Int.mul_add]
    have e := Int.emod_def z v
    have e2 : z % v * i = z * i - v * (z / v * i) := by rw [e, Int.sub_mul, Int.mul_assoc]
    omega
  obtain ⟨t, ht⟩ := hb
  have key : a + m * (z % v * i % v) = b + n * (z * t - u * w) := by
    rw [hw, hu, hv]
    have e1 : d * u * (z * i - v * w) = d * (z * (i * u)) - d * (u * (v * w)) := by
      rw [Int.mul_assoc d u, ← Int.mul_sub d, Int.mul_sub u, ← Int.mul_assoc u z i, Int.mul_comm u z, Int.mul_assoc z u i, Int.mul_comm u i]
    have e2 : d * v * (z * t - u * w) = d * (z * (v * t)) - d * (u * (v * w)) := by
      rw [Int.mul_assoc d v, ← Int.mul_sub d, Int.mul_sub v, ← Int.mul_assoc v z t, Int.mul_comm v z, Int.mul_assoc z v t, ← Int.mul_assoc v u w, Int.mul_comm v u, Int.mul_assoc u v w]
    rw [e1, e2, ← ht, Int.mul_sub z, Int.mul_one, Int.mul_sub d]
    omega
  rw [key, Int.add_mul_emod_self_left]
  exact Int.emod_eq_of_lt b0 b1

/-- All answers are one. -/
theorem J.one {m n a b c l c' l' : Int} {ok ok' : Bool} (hm : 0 < m) (hn : 0 < n) (h : J m n a b c l ok) (h' : J m n a b c' l' ok') : c = c' ∧ l = l' ∧ ok = ok' := by
  rcases h with ⟨o, d, hl, k, k0, k1, hc, hb⟩ | ⟨o, d, hc, hl⟩ <;> rcases h' with ⟨o', d', hl', k', k0', k1', hc', hb'⟩ | ⟨o', d', hc', hl'⟩
  · subst hc hc'
    have := one_k hm hn (hb.trans hb'.symm) k0 k1 k0' k1'
    subst this
    exact ⟨rfl, hl.trans hl'.symm, o.trans o'.symm⟩
  · exact absurd d d'
  · exact absurd d' d
  · exact ⟨hc.trans hc'.symm, hl.trans hl'.symm, o.trans o'.symm⟩

end Go.Proofs.Ytgjajkcpdjmibaa.Num
