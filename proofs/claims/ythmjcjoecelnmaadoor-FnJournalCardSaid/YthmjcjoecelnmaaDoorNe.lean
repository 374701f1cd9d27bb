/-
  The reference's text of an integer is its decimal numeral: plain lemmas, and the contracts of l01Text at an integer and of NumberOf, the reference's and the program's. Condition: an int64; the library's table of powers of ten.
-/
import Derived.Test.YthmjcjoecelnmaaDoorNd
namespace Go.Proofs.YthmjcjoecelnmaaDoor
open Go.RowKit
set_option linter.unusedVariables false

theorem grp_cons (x : Int) (r : List Int) (k : Nat) : grp (x :: r) (k + 1) = grp r k ++ four x := by
  induction k with
  | zero => simp [grp]
  | succ k ih =>
    show four ((x :: r).getD (k + 1) 0) ++ grp (x :: r) (k + 1) = _
    rw [ih]
    simp [grp]

theorem dec_step (n : Nat) (h : 10 ≤ n) : Lib.decDigits n = Lib.decDigits (n / 10) ++ [UInt8.ofNat (48 + n % 10)] := by
  rw [Lib.decDigits, dif_neg (by omega)]

theorem dec_ne (n : Nat) : Lib.decDigits n ≠ [] := by
  by_cases h : n < 10
  · rw [Lib.decDigits_one h]; simp
  · rw [dec_step n (by omega)]; simp

theorem dec_four (n : Nat) (h : 10000 ≤ n) : Lib.decDigits n = Lib.decDigits (n / 10000) ++ four ((n % 10000 : Nat) : Int) := by
  rw [dec_step n (by omega), dec_step (n / 10) (by omega), dec_step (n / 10 / 10) (by omega), dec_step (n / 10 / 10 / 10) (by omega)]
  have e1 : n / 10 / 10 / 10 / 10 = n / 10000 := by omega
  have e2 : n / 10 / 10 / 10 % 10 = n % 10000 / 1000 := by omega
  have e3 : n / 10 / 10 % 10 = n % 10000 / 100 % 10 := by omega
  have e4 : n / 10 % 10 = n % 10000 / 10 % 10 := by omega
  have e5 : n % 10 = n % 10000 % 10 := by omega
  have e : ((n % 10000 : Nat) : Int).toNat = n % 10000 := by omega
  unfold four
  rw [e1, e2, e3, e4, e5, e]
  simp only [List.append_assoc, List.cons_append, List.nil_append]

theorem ne48 {k : Nat} (h : 0 < k) (h2 : k < 10) : (UInt8.ofNat (48 + k) == 48) = false := by
  rw [beq_eq_false_iff_ne]
  intro e
  have := congrArg UInt8.toNat e
  simp at this
  omega

theorem dw0 (l : List UInt8) : (UInt8.ofNat (48 + 0) :: l).dropWhile (· == 48) = l.dropWhile (· == 48) := rfl
theorem dw1 {k : Nat} (h : 0 < k) (h2 : k < 10) (l : List UInt8) : (UInt8.ofNat (48 + k) :: l).dropWhile (· == 48) = UInt8.ofNat (48 + k) :: l := by
  rw [List.dropWhile_cons, ne48 h h2]
  rfl

theorem four_small (n : Nat) (h0 : 0 < n) (h : n < 10000) : (four (n : Int)).dropWhile (· == 48) = Lib.decDigits n := by
  have e : ((n : Nat) : Int).toNat = n := by omega
  unfold four
  rw [e]
  by_cases h1 : n < 10
  · rw [Lib.decDigits_one h1, show n / 1000 = 0 by omega, show n / 100 % 10 = 0 by omega, show n / 10 % 10 = 0 by omega, show n % 10 = n by omega]
    rw [dw0, dw0, dw0, dw1 h0 h1]
  · rw [dec_step n (by omega)]
    by_cases h2 : n / 10 < 10
    · rw [Lib.decDigits_one h2, show n / 1000 = 0 by omega, show n / 100 % 10 = 0 by omega, show n / 10 % 10 = n / 10 by omega]
      rw [dw0, dw0, dw1 (by omega) h2]
      rfl
    · rw [dec_step (n / 10) (by omega)]
      by_cases h3 : n / 10 / 10 < 10
      · rw [Lib.decDigits_one h3, show n / 1000 = 0 by omega, show n / 100 % 10 = n / 10 / 10 by omega]
        rw [dw0, dw1 (by omega) h3]
        rfl
      · rw [dec_step (n / 10 / 10) (by omega), Lib.decDigits_one (i := n / 10 / 10 / 10) (by omega), show n / 1000 = n / 10 / 10 / 10 by omega, show n / 100 % 10 = n / 10 / 10 % 10 by omega]
        rw [dw1 (by omega) (by omega)]
        rfl

theorem grp_limbs (n : Nat) : n ≠ 0 → (grp (limbs n) (limbs n).length).dropWhile (· == 48) = Lib.decDigits n := by
  induction n using Nat.strongRecOn with
  | _ n ih =>
    intro h
    rw [limbs_pos h, List.length_cons, grp_cons]
    by_cases h2 : n / 10000 = 0
    · rw [h2, limbs_zero]
      simp only [List.length_nil, grp, List.nil_append]
      rw [show n % 10000 = n by omega]
      exact four_small n (by omega) (by omega)
    · have hi := ih (n / 10000) (by omega) h2
      rw [List.dropWhile_append, hi]
      have hne := dec_ne (n / 10000)
      rw [dec_four n (by omega)]
      cases hd : Lib.decDigits (n / 10000) with
      | nil => exact absurd hd hne
      | cons a b => simp

theorem zdig_limbs (n : Nat) : zdig (limbs n) = Lib.decDigits n := by
  by_cases h : n = 0
  · subst h
    rw [limbs_zero]
    rw [Lib.decDigits_one (by omega)]
    rfl
  · have h1 := grp_limbs n h
    cases hd : Lib.decDigits n with
    | nil => exact absurd hd (dec_ne n)
    | cons a b => exact zdig_cons (by rw [h1, hd])

theorem limbs_one : limbs 1 = [1] := by
  rw [limbs_pos (by omega)]
  rw [show 1 / 10000 = 0 by omega, limbs_zero]
  rfl

theorem isOne_one : isOne (limbs 1) = true := by rw [limbs_one]; rfl

theorem textQ_int (x : Int) : textQ (decide (x < 0) && decide (0 < (limbs x.natAbs).length)) (limbs x.natAbs) (limbs 1) = Lib.itoa x := by
  unfold textQ Lib.itoa
  rw [isOne_one, zdig_limbs]
  by_cases h : x < 0
  · have hl : 0 < (limbs x.natAbs).length := by rw [limbs_pos (by omega)]; simp
    simp [h, hl]
  · simp [h]
    congr 1
    omega

theorem itoa_length (x : Int) (h0 : -9223372036854775808 ≤ x) (h1 : x ≤ 9223372036854775807) : (Lib.itoa x).length ≤ 30 := by
  rw [← textQ_int]
  unfold textQ
  rw [isOne_one]
  have h2 := zdig_length (limbs x.natAbs)
  have h3 := limbs_five x.natAbs (by omega)
  simp
  split <;> simp <;> omega

/-- The text of an integer. -/
theorem textInt_any (x : Int) (w : World) (v : Value) (hv : QVal 0 (decide (x < 0)) x.natAbs 1 w v) (h0 : -9223372036854775808 ≤ x) (h1 : x ≤ 9223372036854775807) :
    Calls Tryd.prog 23 #[v] w fun e w' => e = .returned (.string ⟨(Lib.itoa x).toArray⟩) ∧ Below w.heap.size w w' := by
  obtain ⟨ao, cap, bo, cbp, rfl, hd, he⟩ := hv
  have h := text_any (decide (x < 0) && decide (0 < (limbs x.natAbs).length)) false ao bo (limbs x.natAbs) (limbs 1) cap cbp w hd he (Nat.le_trans (limbs_five _ (by omega)) (by omega)) (by rw [limbs_one]; simp) (limbs_bound _) (limbs_bound _)
  rw [textQ_int] at h
  exact h

theorem qval_low {lo lo' : Nat} {neg : Bool} {n d : Nat} {w : World} {v : Value} (h : QVal lo neg n d w v) (hl : lo' ≤ lo) : QVal lo' neg n d w v := by
  obtain ⟨ao, cap, bo, cbp, rfl, hd, he⟩ := h
  exact ⟨ao, cap, bo, cbp, rfl, hd.low hl, he.low hl⟩

set_option maxHeartbeats 400000 in
theorem specNumber_any (x : Int) (w : World) (h0 : -9223372036854775808 ≤ x) (h1 : x ≤ 9223372036854775807) :
    Calls Tryd.prog 7 #[.int .i64 x] w fun e w' => e = .returned (.string ⟨(Lib.itoa x).toArray⟩) ∧ Below w.heap.size w w' := by
  go_enter Tryd.func7, Tryd.ntmps7
  go_wp2_with fail
  refine (int_any x _ h0 h1).mono ?_
  rintro e w1 ⟨v, rfl, hq, hb⟩
  have HQ : Hid (QVal 0 (decide (x < 0)) x.natAbs 1 w1 v) := qval_low hq (Nat.zero_le _)
  have HB := Lib.hid hb
  clear hq hb
  go_wp2_with fail
  refine (textInt_any x _ _ HQ.out h0 h1).mono ?_
  rintro e w2 ⟨rfl, hb2⟩
  have HB2 := Lib.hid hb2
  clear hb2
  go_wp2
  go_ret
  exact ⟨rfl, HB.out.trans (HB2.out.mono HB.out.size)⟩

set_option maxHeartbeats 400000 in
theorem implNumber_any (x : Int) (w : World) (h0 : -9223372036854775808 ≤ x) (h1 : x ≤ 9223372036854775807) (ht : Tab w) :
    Calls Tryd.prog 8 #[.int .i64 x] w fun e w' => e = .returned (.string ⟨(Lib.itoa x).toArray⟩) ∧ Below w.heap.size w w' := by
  have HT := Lib.hid ht
  clear ht
  go_enter Tryd.func8, Tryd.ntmps8
  go_wp2_with fail
  refine (Tryd.strconv_FormatInt_10 x h0 h1 _ HT.out).mono ?_
  rintro e w1 ⟨rfl, k, os, hw⟩
  have HB : Hid (Below w.heap.size w w1) := by rw [hw]; exact Lib.below_grow _ _ (Nat.le_refl _) _ _
  clear hw
  go_wp2
  go_ret
  exact ⟨rfl, HB.out⟩

end Go.Proofs.YthmjcjoecelnmaaDoor
