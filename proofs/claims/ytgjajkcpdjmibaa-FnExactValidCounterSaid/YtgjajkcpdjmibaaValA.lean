/-
  Slices of integers and slices of such slices in memory, by what they hold; the law's own helpers that measure, copy and compare them, each by its contract. Conditions: the sizes that each theorem types.
-/
import Derived.Test.YtgjajkcpdjmibaaIn
import Derived.Deep.LoopGhost
import Derived.Deep.OwnRows
import Derived.Deep.QuietTactic
import Derived.BigQuiet
namespace Go.Proofs.Ytgjajkcpdjmibaa
open Go.RowKit
set_option linter.unusedVariables false

theorem Try.info2 : (Try.prog.info? 2).map (fun i => (i.zero, i.size, i.bytes)) = some (some (.int .i64 0), 1, 8) := by kernel_rfl
theorem Try.info33 : (Try.prog.info? 33).map (fun i => (i.zero, i.size, i.bytes)) = some (some (.slice none 0 0), 1, 24) := by kernel_rfl

theorem below_drewN {B : Nat} {a w : World} (h : Below B a w) (n : Nat) : Below B a (w.drewN n) := ⟨h.os, h.tape, h.output, h.size, h.block⟩

/-- A slice at an address that holds these integers, in a block from lo on. -/
def RowAt (lo : Nat) (w : World) (ao : Option Addr) (zs : List Int) : Prop :=
  0 < zs.length → ∃ b o, ao = some ⟨b, o, none⟩ ∧ lo ≤ b ∧ b < w.heap.size ∧ ∀ t, t < zs.length → w.cell? ⟨b, o + t, none⟩ = some (.int .i64 (zs.getD t 0))

/-- A slice value that holds these integers. -/
def Row (lo : Nat) (w : World) (v : Value) (zs : List Int) : Prop := ∃ ao cap, v = .slice ao zs.length cap ∧ RowAt lo w ao zs

/-- A slice value that holds these rows. -/
def RowsAt (lo : Nat) (w : World) (ao : Option Addr) (rows : List (List Int)) : Prop :=
  0 < rows.length → ∃ b o, ao = some ⟨b, o, none⟩ ∧ lo ≤ b ∧ b < w.heap.size ∧ ∀ t, t < rows.length → ∃ ra rc, w.cell? ⟨b, o + t, none⟩ = some (.slice ra (rows.getD t []).length rc) ∧ RowAt lo w ra (rows.getD t [])

def Rows2 (lo : Nat) (w : World) (v : Value) (rows : List (List Int)) : Prop := ∃ ao cap, v = .slice ao rows.length cap ∧ RowsAt lo w ao rows

theorem RowAt.keep {lo : Nat} {w w' : World} {ao : Option Addr} {zs : List Int} (h : RowAt lo w ao zs) (hb : Below w.heap.size w w') : RowAt lo w' ao zs := by
  intro h0
  obtain ⟨b, o, e, l, hlt, hc⟩ := h h0
  exact ⟨b, o, e, l, Nat.lt_of_lt_of_le hlt hb.size, fun t ht => (hb.cell (p := ⟨b, o + t, none⟩) hlt).trans (hc t ht)⟩

theorem RowsAt.keep {lo : Nat} {w w' : World} {ao : Option Addr} {rows : List (List Int)} (h : RowsAt lo w ao rows) (hb : Below w.heap.size w w') : RowsAt lo w' ao rows := by
  intro h0
  obtain ⟨b, o, e, l, hlt, hc⟩ := h h0
  refine ⟨b, o, e, l, Nat.lt_of_lt_of_le hlt hb.size, fun t ht => ?_⟩
  obtain ⟨ra, rc, h1, h2⟩ := hc t ht
  exact ⟨ra, rc, (hb.cell (p := ⟨b, o + t, none⟩) hlt).trans h1, h2.keep hb⟩

theorem RowAt.low {lo lo' : Nat} {w : World} {ao : Option Addr} {zs : List Int} (h : RowAt lo w ao zs) (hl : lo' ≤ lo) : RowAt lo' w ao zs := by
  intro h0
  obtain ⟨b, o, e, l, hlt, hc⟩ := h h0
  exact ⟨b, o, e, Nat.le_trans hl l, hlt, hc⟩

theorem RowsAt.low {lo lo' : Nat} {w : World} {ao : Option Addr} {rows : List (List Int)} (h : RowsAt lo w ao rows) (hl : lo' ≤ lo) : RowsAt lo' w ao rows := by
  intro h0
  obtain ⟨b, o, e, l, hlt, hc⟩ := h h0
  refine ⟨b, o, e, Nat.le_trans hl l, hlt, fun t ht => ?_⟩
  obtain ⟨ra, rc, h1, h2⟩ := hc t ht
  exact ⟨ra, rc, h1, h2.low hl⟩

/-! ### szInt64S, szInt64SS -/

/-- What is left of a bound, or -1. -/
def less (left : Int) (n : Nat) : Int := if left - n < 0 then -1 else left - n

set_option maxHeartbeats 400000 in
theorem sz1_any (ao : Option Addr) (len cap : Nat) (left : Int) (w : World) (hl : len ≤ 9223372036854775807) (h0 : 0 ≤ left) (h1 : left ≤ 1048576) :
    Calls Try.prog 26 #[.slice ao len cap, .int .i64 left] w fun e w' => e = .returned (.int .i64 (less left len)) ∧ w = w' := by
  by_cases h : left - len < 0
  · have H : Hid (less left len = -1) := if_pos h
    go_enter Try.func26, Try.ntmps26
    go_wp2
    go_ret
    exact ⟨ret_int H.out.symm, rfl⟩
  · have H : Hid (less left len = left - len) := if_neg h
    go_enter Try.func26, Try.ntmps26
    go_wp2
    go_ret
    exact ⟨ret_int H.out.symm, rfl⟩

/-- A number is returned; where it isn't negative the rows are small. -/
def SizeOK (left : Int) (rows : List (List Int)) (e : Ending) : Prop :=
  ∃ r : Int, e = .returned (.int .i64 r) ∧ -1 ≤ r ∧ r ≤ left ∧ (0 ≤ r → (rows.length : Int) ≤ left ∧ ∀ t, t < rows.length → ((rows.getD t []).length : Int) ≤ left)

set_option maxHeartbeats 400000 in
theorem sz2_any (ao : Option Addr) (rows : List (List Int)) (cap : Nat) (left : Int) (w : World) (hr : RowsAt 0 w ao rows) (hl : rows.length ≤ 9223372036854775807) (hr1 : ∀ t, t < rows.length → (rows.getD t []).length ≤ 9223372036854775807) (h0 : 0 ≤ left) (h1 : left ≤ 1048576) :
    Calls Try.prog 25 #[.slice ao rows.length cap, .int .i64 left] w fun e w' => SizeOK left rows e ∧ w = w' := by
  generalize hn : rows.length = n at *
  have Hn := Lib.hid hn
  by_cases h : left - n < 0
  · clear hn
    go_enter Try.func25, Try.ntmps25
    go_wp2
    go_ret
    exact ⟨⟨-1, rfl, by omega, by omega, fun h => by omega⟩, rfl⟩
  · have HR : Hid (RowsAt 0 w ao rows) := hr
    have HR1 := Lib.hid hr1
    clear hr hr1 hn
    go_enter Try.func25, Try.ntmps25
    go_wp2
    go_loop [1, 5] (fun l i => ∃ k : Nat, ∃ L : Int, k ≤ n ∧ i = .int .i64 k ∧ l = .int .i64 L ∧ 0 ≤ L ∧ L ≤ left ∧ ∀ t, t < k → ((rows.getD t []).length : Int) ≤ left) (fun _ i => n - (intOf i).toNat)
    case atStart => exact ⟨0, left - n, by omega, rfl, rfl, by omega, by omega, fun t ht => by omega⟩
    case round =>
      obtain ⟨k, L, hk, rfl, rfl, l0, l1, hsm⟩ := hrel
      have HS := Lib.hid hsm
      clear hsm
      by_cases hlt : k < n
      · obtain ⟨b, o, rfl, -, -, hc⟩ := HR.out (by have := Hn.out; omega)
        obtain ⟨ra, rc, hc1, -⟩ := hc k (by have := Hn.out; omega)
        have hcl := HR1.out k hlt
        clear hc
        generalize hm : (rows.getD k []).length = m at *
        have Hm := Lib.hid hm
        clear hm
        go_wp2_with fail
        refine (sz1_any _ _ _ _ _ hcl l0 (by omega)).mono ?_
        rintro e w' ⟨rfl, rfl⟩
        by_cases hneg : L - m < 0
        · have e1 : less L m = -1 := if_pos hneg
          rw [e1]
          go_wp2
          go_ret
          exact ⟨⟨-1, rfl, by omega, by omega, fun h => by omega⟩, rfl⟩
        · have e1 : less L m = L - m := if_neg hneg
          rw [e1]
          clear e1
          go_wp2
          go_round
          case rel =>
            refine ⟨k + 1, L - m, by omega, by go_num, rfl, by omega, by omega, fun t ht => ?_⟩
            by_cases et : t = k
            · rw [et, Hm.out]; omega
            · exact HS.out t (by omega)
          case measure => simp [intOf]; omega
      · go_wp2
        go_ret
        have := Hn.out
        exact ⟨⟨L, rfl, by omega, l1, fun _ => ⟨by omega, fun t ht => HS.out t (by omega)⟩⟩, rfl⟩

end Go.Proofs.Ytgjajkcpdjmibaa
