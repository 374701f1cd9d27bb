/-
  l01Far and l01ZNeg by their contracts, at integers of which one has at most one digit to the base 10000.
-/
import Derived.Test.YthmjcjoecelnmaaDoorNe
import Derived.Deep.OwnRows
namespace Go.Proofs.YthmjcjoecelnmaaDoor
open Go.RowKit
set_option linter.unusedVariables false

theorem limbs_one_digit {x : Nat} (h0 : 0 < x) (h1 : x < 10000) : limbs x = [(x : Int)] := by
  rw [limbs_pos (by omega), show x / 10000 = 0 by omega, limbs_zero, show x % 10000 = x by omega]

theorem limbs_two_digits {x : Nat} (h0 : 10000 ≤ x) (h1 : x < 100000000) : limbs x = [((x % 10000 : Nat) : Int), ((x / 10000 : Nat) : Int)] := by
  rw [limbs_pos (by omega), limbs_one_digit (x := x / 10000) (by omega) (by omega)]

theorem limbs_len {x : Nat} (h1 : x < 100000000) : (limbs x).length = if x = 0 then 0 else if x < 10000 then 1 else 2 := by
  by_cases h : x = 0
  · subst h; rw [limbs_zero]; rfl
  · by_cases h2 : x < 10000
    · rw [limbs_one_digit (by omega) h2]; simp [h, h2]
    · rw [limbs_two_digits (by omega) h1]; simp [h, h2]

/-- A comparison's answer. -/
def cmpN (x y : Nat) : Int := if x < y then -1 else if y < x then 1 else 0

set_option maxHeartbeats 400000 in
theorem far_ne (na nb : Bool) (ao bo : Option Addr) (n m ca cb : Nat) (w : World) (h : n ≠ m) (hn : n ≤ 100) (hm : m ≤ 100) :
    Calls Tryd.prog 85 #[.agg #[.bool na, .slice ao n ca], .agg #[.bool nb, .slice bo m cb]] w fun e w' => e = .returned (.int .i64 (if n < m then -1 else 1)) ∧ Below w.heap.size w w' := by
  have HB : Hid (Below w.heap.size w ((w.alloc (.cells #[.bool na, .slice ao n ca] 45)).alloc (.cells #[.bool nb, .slice bo m cb] 45))) := ((Below.refl _ _).alloc (Nat.le_refl _) _).alloc (by simp) _
  by_cases hlt : n < m
  · go_enter Tryd.func85, Tryd.ntmps85
    go_wp2
    go_ret
    exact ⟨by simp, HB.out⟩
  · go_enter Tryd.func85, Tryd.ntmps85
    go_wp2
    go_ret
    exact ⟨by simp, HB.out⟩

set_option maxHeartbeats 400000 in
theorem far_00 (na nb : Bool) (ao bo : Option Addr) (ca cb : Nat) (w : World) :
    Calls Tryd.prog 85 #[.agg #[.bool na, .slice ao 0 ca], .agg #[.bool nb, .slice bo 0 cb]] w fun e w' => e = .returned (.int .i64 0) ∧ Below w.heap.size w w' := by
  have HB : Hid (Below w.heap.size w ((w.alloc (.cells #[.bool na, .slice ao 0 ca] 45)).alloc (.cells #[.bool nb, .slice bo 0 cb] 45))) := ((Below.refl _ _).alloc (Nat.le_refl _) _).alloc (by simp) _
  go_enter Tryd.func85, Tryd.ntmps85
  go_wp2
  go_loop [5] (fun i => i = .int .i64 (-1)) (fun _ => 0)
  case atStart => rfl
  case round =>
    subst hrel
    go_wp2
    go_ret
    exact ⟨rfl, HB.out⟩

set_option maxHeartbeats 400000 in
theorem far_11 (na nb : Bool) (b o b' o' ca cb x y : Nat) (w : World) (hx : w.cell? ⟨b, o, none⟩ = some (.int .i64 x)) (hy : w.cell? ⟨b', o', none⟩ = some (.int .i64 y)) (hbl : b < w.heap.size) (hbl' : b' < w.heap.size) (h1 : x < 10000) (h2 : y < 10000) :
    Calls Tryd.prog 85 #[.agg #[.bool na, .slice (some ⟨b, o, none⟩) 1 ca], .agg #[.bool nb, .slice (some ⟨b', o', none⟩) 1 cb]] w fun e w' => e = .returned (.int .i64 (cmpN x y)) ∧ Below w.heap.size w w' := by
  have hB : Below w.heap.size w ((w.alloc (.cells #[.bool na, .slice (some ⟨b, o, none⟩) 1 ca] 45)).alloc (.cells #[.bool nb, .slice (some ⟨b', o', none⟩) 1 cb] 45)) := ((Below.refl _ _).alloc (Nat.le_refl _) _).alloc (by simp) _
  have HB := Lib.hid hB
  have HX := Lib.hid hx
  have HY := Lib.hid hy
  clear hB hx hy
  go_enter Tryd.func85, Tryd.ntmps85
  go_wp2
  go_loopw [5] (fun i wr => (i = .int .i64 0 ∨ (i = .int .i64 (-1) ∧ x = y)) ∧ Below (w.heap.size + 2) ((w.alloc (.cells #[.bool na, .slice (some ⟨b, o, none⟩) 1 ca] 45)).alloc (.cells #[.bool nb, .slice (some ⟨b', o', none⟩) 1 cb] 45)) wr) (fun i _ => (intOf i + 1).toNat)
  case atStart => exact ⟨.inl rfl, Below.refl _ _⟩
  case round =>
    obtain ⟨hi, hb⟩ := hrel
    have HBR := Lib.hid hb
    have HF : Hid (Below w.heap.size w wr) := HB.out.trans (hb.mono (by omega))
    have p0 : wr.cell? ⟨w.heap.size, 1, none⟩ = some (.slice (some ⟨b, o, none⟩) 1 ca) := (hb.cell (p := ⟨w.heap.size, 1, none⟩) (show w.heap.size < _ by omega)).trans (by simp [go_sem])
    have p1 : wr.cell? ⟨w.heap.size + 1, 1, none⟩ = some (.slice (some ⟨b', o', none⟩) 1 cb) := (hb.cell (p := ⟨w.heap.size + 1, 1, none⟩) (show w.heap.size + 1 < _ by omega)).trans (by simp [go_sem])
    have c0 := (HF.out.cell (p := ⟨b, o, none⟩) hbl).trans HX.out
    have c1 := (HF.out.cell (p := ⟨b', o', none⟩) hbl').trans HY.out
    clear hb
    rcases hi with rfl | ⟨rfl, hxy⟩
    · by_cases hlt : x < y
      · go_wp2
        go_quiet (fail)
        go_wp2
        go_ret
        exact ⟨ret_int (by simp [cmpN, hlt]), below_drewN HF.out _⟩
      · have HLt := Lib.hid hlt
        have HB2 : ∀ n, Hid (Below (w.heap.size + 2) ((w.alloc (.cells #[.bool na, .slice (some ⟨b, o, none⟩) 1 ca] 45)).alloc (.cells #[.bool nb, .slice (some ⟨b', o', none⟩) 1 cb] 45)) (wr.drewN n)) := fun n => below_drewN HBR.out n
        have HF2 : ∀ n, Hid (Below w.heap.size w (wr.drewN n)) := fun n => below_drewN HF.out n
        have HB3 := Lib.hid HB2
        have HF3 := Lib.hid HF2
        have HP := Lib.hid (And.intro p0 (And.intro p1 (And.intro c0 c1)))
        clear HB2 HF2
        go_wp2
        go_quiet (fail)
        rename_i nq
        have HB4 := HB3.out nq
        have HF4 := HF3.out nq
        have hp : (wr.drewN nq).cell? ⟨w.heap.size, 1, none⟩ = some (.slice (some ⟨b, o, none⟩) 1 ca) ∧ (wr.drewN nq).cell? ⟨w.heap.size + 1, 1, none⟩ = some (.slice (some ⟨b', o', none⟩) 1 cb) ∧ (wr.drewN nq).cell? ⟨b, o, none⟩ = some (.int .i64 x) ∧ (wr.drewN nq).cell? ⟨b', o', none⟩ = some (.int .i64 y) := HP.out
        clear HB3 HF3 HP p0 p1 c0 c1 HBR HF
        generalize wr.drewN nq = w2 at *
        obtain ⟨p0, p1, c0, c1⟩ := hp
        by_cases hgt : y < x
        · go_wp2
          go_quiet (fail)
          go_wp2
          go_ret
          exact ⟨ret_int (by have := HLt.out; simp [cmpN, hgt]; omega), below_drewN HF4.out _⟩
        · have HE : Hid (x = y) := by have := HLt.out; show x = y; omega
          go_wp2
          go_quiet (fail)
          go_wp2
          go_roundw
          case rel => exact ⟨.inr ⟨rfl, HE.out⟩, below_drewN HB4.out _⟩
          case measure => simp [intOf]
    · have HXY := Lib.hid hxy
      clear hxy
      go_wp2
      go_ret
      refine ⟨ret_int ?_, HF.out⟩
      rw [HXY.out]
      simp [cmpN]

/-- A value that is an integer of at most one digit, in plain words. -/
theorem one_digit {lo : Nat} {neg : Bool} {x : Nat} {w : World} {v : Value} (h : ZVal lo neg x w v) (h0 : 0 < x) (h1 : x < 10000) :
    ∃ b o cap, v = .agg #[.bool neg, .slice (some ⟨b, o, none⟩) 1 cap] ∧ w.cell? ⟨b, o, none⟩ = some (.int .i64 x) ∧ lo ≤ b ∧ b < w.heap.size ∧ 1 ≤ cap ∧ cap ≤ 9223372036854775807 := by
  obtain ⟨ao, cap, rfl, hr, hn, hl, hc⟩ := h
  rw [limbs_one_digit h0 h1] at *
  obtain ⟨b, o, rfl, hlo, hb, hcell⟩ := hr (by simp)
  exact ⟨b, o, cap, by simp, by simpa using hcell 0 (by simp), hlo, hb, by simpa using hl, hc⟩

theorem no_digit {lo : Nat} {neg : Bool} {w : World} {v : Value} (h : ZVal lo neg 0 w v) : ∃ ao cap, v = .agg #[.bool false, .slice ao 0 cap] ∧ (ao = none → cap = 0) ∧ cap ≤ 9223372036854775807 := by
  obtain ⟨ao, cap, rfl, hr, hn, hl, hc⟩ := h
  rw [limbs_zero]
  exact ⟨ao, cap, by simp, hn, hc⟩

theorem far_any (lo lo' : Nat) (na nb : Bool) (x y : Nat) (va vb : Value) (w : World) (ha : ZVal lo na x w va) (hb : ZVal lo' nb y w vb) (hx : x < 100000000) (hy : y < 100000000) (h1 : x < 10000 ∨ y < 10000) :
    Calls Tryd.prog 85 #[va, vb] w fun e w' => e = .returned (.int .i64 (cmpN x y)) ∧ Below w.heap.size w w' := by
  by_cases hne : (limbs x).length = (limbs y).length
  · rw [limbs_len hx, limbs_len hy] at hne
    by_cases h0 : x = 0
    · obtain rfl : y = 0 := by
        by_cases hy0 : y = 0
        · exact hy0
        · rw [if_pos h0, if_neg hy0] at hne; split at hne <;> omega
      subst h0
      obtain ⟨ao, ca, rfl, -⟩ := no_digit ha
      obtain ⟨bo, cb, rfl, -⟩ := no_digit hb
      have h := far_00 false false ao bo ca cb w
      simpa [cmpN] using h
    · have hy0 : y ≠ 0 := by
        intro h
        rw [if_neg h0, if_pos h] at hne; split at hne <;> omega
      have hxs : x < 10000 := by
        rw [if_neg h0, if_neg hy0] at hne
        split at hne <;> split at hne <;> omega
      have hys : y < 10000 := by
        rw [if_neg h0, if_neg hy0] at hne
        split at hne <;> split at hne <;> omega
      obtain ⟨b, o, ca, rfl, c1, -, b1, -⟩ := one_digit ha (by omega) hxs
      obtain ⟨b', o', cb, rfl, c2, -, b2, -⟩ := one_digit hb (by omega) hys
      exact far_11 na nb b o b' o' ca cb x y w c1 c2 b1 b2 hxs hys
  · obtain ⟨ao, ca, rfl, -⟩ := ha
    obtain ⟨bo, cb, rfl, -⟩ := hb
    have hxl := limbs_len hx
    have hyl := limbs_len hy
    refine (far_ne _ _ ao bo (limbs x).length (limbs y).length ca cb w hne (by rw [hxl]; split <;> (try split) <;> omega) (by rw [hyl]; split <;> (try split) <;> omega)).mono ?_
    rintro e w' ⟨rfl, hb⟩
    refine ⟨ret_int ?_, hb⟩
    rw [hxl, hyl] at hne ⊢
    unfold cmpN
    split <;> split <;> (repeat' split) <;> (try simp_all) <;> (try omega)

end Go.Proofs.YthmjcjoecelnmaaDoor
