/-
  The copies that the law makes of slices of integers and of slices of such slices, and its comparisons, each by its contract: the copy holds what the original holds, in new memory; equal data compare equal. Conditions: lengths of at most 1048576.
-/
import Derived.Test.YtgjajkcpdjmibaaValA
namespace Go.Proofs.Ytgjajkcpdjmibaa
open Go.RowKit
set_option linter.unusedVariables false

/-- What a call that copies returns. -/
def Copied (w : World) (zs : List Int) (e : Ending) (w' : World) : Prop :=
  ∃ ao cap, e = .returned (.slice ao zs.length cap) ∧ RowAt w.heap.size w' ao zs ∧ Below w.heap.size w w'
def CopiedRows (w : World) (rows : List (List Int)) (e : Ending) (w' : World) : Prop :=
  ∃ ao cap, e = .returned (.slice ao rows.length cap) ∧ RowsAt w.heap.size w' ao rows ∧ Below w.heap.size w w'

/-- The first k numbers are there, the others are 0. -/
def part (zs : List Int) (k : Nat) (j : Nat) : Value := .int .i64 (if j < k then zs.getD j 0 else 0)

set_option maxHeartbeats 400000 in
theorem to1_any (ao : Option Addr) (zs : List Int) (cap : Nat) (w : World) (hr : RowAt 0 w ao zs) (hl : zs.length ≤ 1048576) :
    Calls Try.prog 29 #[.slice ao zs.length cap] w (Copied w zs) := by
  generalize hn : zs.length = n at *
  have Hn := Lib.hid hn
  have HR : Hid (RowAt 0 w ao zs) := hr
  clear hr hn
  have hmk := run_make_row' (P := Try.prog) 33 2 (.int .i64 0) 8 Try.underlying33 Try.info2 rfl .i64 .i64 n (by omega) (by omega)
  go_enter Try.func29, Try.ntmps29
  go_wp2
  go_loopw [4] (fun i wr => ∃ k : Nat, k ≤ n ∧ i = .int .i64 k ∧ wr.rowIs w.heap.size 2 n (part zs k) ∧ Below w.heap.size w wr) (fun i _ => n - (intOf i).toNat)
  case atStart =>
    exact ⟨0, by omega, rfl, (World.rowIs_made w (.int .i64 0) n 2).congr (fun i hi => by simp [part]), (Below.refl _ _).alloc (Nat.le_refl _) _⟩
  case round =>
    obtain ⟨k, hk, rfl, hrow, hb⟩ := hrel
    have HRow : Hid (wr.rowIs w.heap.size 2 n (part zs k)) := hrow
    have HB : Hid (Below w.heap.size w wr) := hb
    by_cases hlt : k < n
    · obtain ⟨b, o, rfl, -, hbl, hc⟩ := HR.out (by have := Hn.out; omega)
      have hc1 : wr.cell? ⟨b, o + k, none⟩ = some (.int .i64 (zs.getD k 0)) := (hb.cell (p := ⟨b, o + k, none⟩) hbl).trans (hc k (by have := Hn.out; omega))
      have hc2 := hrow.cell hlt
      have hf := hrow.frozen k
      have hlt2 := hrow.lt
      clear hc hrow hb
      generalize hz : zs.getD k 0 = z at *
      have Hz := Lib.hid hz
      clear hz
      go_wp2
      go_roundw
      case rel =>
        refine ⟨k + 1, by omega, by go_num, (HRow.out.set k _).congr (fun j hj => ?_), HB.out.setCell (Nat.le_refl _) _⟩
        by_cases e : j = k
        · subst e; rw [← Hz.out]; simp [part]
        · have : (j < k + 1) ↔ (j < k) := by omega
          simp [part, e, this]
      case measure => simp [intOf]; omega
    · clear hrow hb
      go_wp2
      go_ret
      have e := Hn.out
      refine ⟨some ⟨w.heap.size, 0, none⟩, n, by rw [e]; rfl, fun h0 => ⟨w.heap.size, 0, rfl, Nat.le_refl _, HRow.out.lt, fun t ht => ?_⟩, HB.out⟩
      rw [Nat.zero_add, HRow.out.cell (by omega)]
      have : t < k := by omega
      simp [part, this]

set_option maxHeartbeats 400000 in
theorem eq1_any (ao bo : Option Addr) (zs : List Int) (ca cb : Nat) (w : World) (ha : RowAt 0 w ao zs) (hb : RowAt 0 w bo zs) (hl : zs.length ≤ 1048576) :
    Calls Try.prog 33 #[.slice ao zs.length ca, .slice bo zs.length cb] w fun e w' => e = .returned (.bool true) ∧ ∃ n, w' = w.drewN n := by
  generalize hn : zs.length = n at *
  have Hn := Lib.hid hn
  have HA : Hid (RowAt 0 w ao zs) := ha
  have HB : Hid (RowAt 0 w bo zs) := hb
  clear ha hb hn
  go_enter Try.func33, Try.ntmps33
  go_wp2
  go_loopw [5] (fun i wr => ∃ k : Nat, k ≤ n ∧ i = .int .i64 k ∧ ∃ d, wr = w.drewN d) (fun i _ => n - (intOf i).toNat)
  case atStart => exact ⟨0, by omega, rfl, 0, rfl⟩
  case round =>
    obtain ⟨k, hk, rfl, d, rfl⟩ := hrel
    by_cases hlt : k < n
    · obtain ⟨b, o, rfl, -, hbl, hc⟩ := HA.out (by have := Hn.out; omega)
      obtain ⟨b', o', rfl, -, hbl', hc'⟩ := HB.out (by have := Hn.out; omega)
      have hc1 := hc k (by have := Hn.out; omega)
      have hc2 := hc' k (by have := Hn.out; omega)
      clear hc hc'
      generalize zs.getD k 0 = z at *
      go_wp2
      go_quiet (fail)
      go_wp2
      go_roundw
      case rel => exact ⟨k + 1, by omega, by go_num, _, rfl⟩
      case measure => simp [intOf]; omega
    · go_wp2
      go_ret
      exact ⟨rfl, _, rfl⟩

end Go.Proofs.Ytgjajkcpdjmibaa
