/-
  The program's test of a row's entries (a closure over the number of states, handed to the library's search), each by its contract. Conditions: lengths of at most 1048576.
-/
import Derived.Test.YtgjajkcpdjmibaaValE
namespace Go.Proofs.Ytgjajkcpdjmibaa
open Go.RowKit
set_option linter.unusedVariables false

/-- The closure over the block p. -/
def clo (p : Nat) : Value := .func (.func 31) #[] #[.pointer (some ⟨p, 0, none⟩)]

set_option maxHeartbeats 400000 in
theorem closure_any (p : Nat) (n x : Int) (w : World) (hc : w.cell? ⟨p, 0, none⟩ = some (.int .i64 n)) (h0 : 0 ≤ n) (h1 : n ≤ 1048576) :
    Calls Try.prog 31 #[.int .i64 x, .pointer (some ⟨p, 0, none⟩)] w fun e w' => e = .returned (.bool (!inB x (-1) (n - 1))) ∧ w = w' := by
  go_enter Try.func31, Try.ntmps31
  go_wp2_with (go_at_call 20; refine (within_any _ _ _ _).mono ?_; rintro e w' ⟨rfl, rfl⟩)
  go_ret
  exact ⟨rfl, rfl⟩

/-- Whether an entry of a row is no state. -/
def badB (row : List Int) (hi : Int) : Bool := !decide (CellsOK row hi row.length)
theorem badB_yes {row : List Int} {hi : Int} (h : ¬ CellsOK row hi row.length) : badB row hi = true := by unfold badB; simp [h]
theorem badB_no {row : List Int} {hi : Int} (h : CellsOK row hi row.length) : badB row hi = false := by unfold badB; simp [h]

/-- An index is returned; -1 where every entry is a state. -/
def Found (row : List Int) (hi : Int) (e : Ending) : Prop :=
  ∃ r : Int, e = .returned (.int .i64 r) ∧ decide (0 ≤ r) = badB row hi

set_option maxHeartbeats 400000 in
theorem index_any (ao : Option Addr) (row : List Int) (cap p : Nat) (n : Int) (w : World) (hr : RowAt 0 w ao row) (hl : row.length ≤ 1048576) (hc : w.cell? ⟨p, 0, none⟩ = some (.int .i64 n)) (h0 : 0 ≤ n) (h1 : n ≤ 1048576) :
    Calls Try.prog 36 #[.slice ao row.length cap, .func (.func 31) #[] #[.pointer (some ⟨p, 0, none⟩)]] w fun e w' => Found row (n - 1) e ∧ w = w' := by
  generalize hn : row.length = m at *
  have Hn := Lib.hid hn
  have HR : Hid (RowAt 0 w ao row) := hr
  have HC := Lib.hid hc
  clear hr hn hc
  go_enter Try.func36, Try.ntmps36
  go_wp2
  go_loop [8] (fun i => ∃ k : Nat, k ≤ m ∧ i = .int .i64 k ∧ CellsOK row (n - 1) k) (fun i => m - (intOf i).toNat)
  case atStart => exact ⟨0, by omega, rfl, fun i h => by omega⟩
  case round =>
    obtain ⟨k, hk, rfl, hok⟩ := hrel
    have HOK : Hid (CellsOK row (n - 1) k) := hok
    clear hok
    by_cases hlt : k < m
    · obtain ⟨b, o, rfl, -, hbl, hcc⟩ := HR.out (by have := Hn.out; omega)
      have hc1 := hcc k (by have := Hn.out; omega)
      clear hcc
      cases hz : inB (row.getD k 0) (-1) (n - 1)
      · have HB : Hid (badB row (n - 1) = true) := badB_yes fun h => inB_out hz (h k (by have := Hn.out; omega))
        generalize row.getD k 0 = z at *
        go_wp2_with (go_at_call 31; refine (closure_any _ _ _ _ HC.out h0 h1).mono ?_; rintro e w' ⟨rfl, rfl⟩)
        go_ret
        exact ⟨⟨k, rfl, by rw [HB.out]; simp⟩, rfl⟩
      · have HN : Hid (CellsOK row (n - 1) (k + 1)) := fun x hx => by
          by_cases e : x = k
          · subst e; exact inB_iff.1 hz
          · exact HOK.out x (by omega)
        generalize row.getD k 0 = z at *
        go_wp2_with (go_at_call 31; refine (closure_any _ _ _ _ HC.out h0 h1).mono ?_; rintro e w' ⟨rfl, rfl⟩)
        go_round
        case rel => exact ⟨k + 1, by omega, by go_num, HN.out⟩
        case measure => simp [intOf]; omega
    · have HB : Hid (badB row (n - 1) = false) := badB_no (by rw [Hn.out]; have h := HOK.out; rw [show k = m by omega] at h; exact h)
      go_wp2
      go_ret
      exact ⟨⟨-1, rfl, by rw [HB.out]; rfl⟩, rfl⟩

set_option maxHeartbeats 400000 in
theorem contains_any (ao : Option Addr) (row : List Int) (cap p : Nat) (n : Int) (w : World) (hr : RowAt 0 w ao row) (hl : row.length ≤ 1048576) (hc : w.cell? ⟨p, 0, none⟩ = some (.int .i64 n)) (h0 : 0 ≤ n) (h1 : n ≤ 1048576) :
    Calls Try.prog 30 #[.slice ao row.length cap, .func (.func 31) #[] #[.pointer (some ⟨p, 0, none⟩)]] w fun e w' => e = .returned (.bool (badB row (n - 1))) ∧ w = w' := by
  have HC := Lib.hid hc
  clear hc
  go_enter Try.func30, Try.ntmps30
  go_wp2_with fail
  refine (index_any _ _ _ _ _ _ hr hl HC.out h0 h1).mono ?_
  rintro e w' ⟨⟨r, rfl, hr'⟩, rfl⟩
  have HR' := Lib.hid hr'
  clear hr'
  go_wp2
  go_ret
  exact ⟨ret_bool HR'.out, rfl⟩

end Go.Proofs.Ytgjajkcpdjmibaa
