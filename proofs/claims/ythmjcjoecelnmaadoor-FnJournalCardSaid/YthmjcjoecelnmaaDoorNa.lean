/-
  l01Cut by its contract: the same digits without the zeros at their end. Condition: fewer than 2^62 digits.
-/
import Derived.Test.YthmjcjoecelnmaaDoorBase
namespace Go.Proofs.YthmjcjoecelnmaaDoor
open Go.RowKit
set_option linter.unusedVariables false

/-- What l01Cut returns: the first m digits, behind which there are zeros alone. -/
def CutRes (neg : Bool) (ao : Option Addr) (cap : Nat) (zs : List Int) (w : World) (e : Ending) (w' : World) : Prop :=
  ∃ m : Nat, m ≤ zs.length ∧ e = .returned (.agg #[.bool (neg && decide (0 < m)), .slice ao m cap]) ∧ (∀ j, m ≤ j → j < zs.length → zs.getD j 0 = 0) ∧ (0 < m → zs.getD (m - 1) 0 ≠ 0) ∧ Below w.heap.size w w'

set_option maxHeartbeats 400000 in
theorem cut_any (neg : Bool) (ao : Option Addr) (zs : List Int) (cap : Nat) (w : World) (hr : RowAt 0 w ao zs) (hn : ao = none → cap = 0) (hlc : zs.length ≤ cap) (hl : cap ≤ 9223372036854775807) :
    Calls Tryd.prog 55 #[.bool neg, .slice ao zs.length cap] w (CutRes neg ao cap zs w) := by
  generalize hz : zs.length = n at *
  have Hz := Lib.hid hz
  have HR : Hid (RowAt 0 w ao zs) := hr
  have HN := Lib.hid hn
  clear hr hn hz
  go_enter Tryd.func55, Tryd.ntmps55
  go_wp2
  go_loop [5] (fun i => ∃ k : Nat, k ≤ n ∧ i = .int .i64 k ∧ (∀ j, k ≤ j → j < n → zs.getD j 0 = 0)) (fun i => (intOf i).toNat)
  case atStart => exact ⟨n, by omega, rfl, fun j h1 h2 => absurd h1 (by omega)⟩
  case round =>
    obtain ⟨k, hk, rfl, hzero⟩ := hrel
    have HZ := Lib.hid hzero
    clear hzero
    by_cases hk0 : k = 0
    · have HF : Hid (0 < k → zs.getD (k - 1) 0 ≠ 0) := fun h => by omega
      subst hk0
      have HB : Hid (Below w.heap.size w (w.alloc (.cells #[.bool false, .slice ao 0 cap] 45))) := (Below.refl _ _).alloc (Nat.le_refl _) _
      cases neg <;> go_wp2
      all_goals exact bodyPost_ret (v := .agg #[.bool false, .slice ao 0 cap]) (by simp [results, Tryd.results55, go_sem]) rfl ⟨0, Nat.zero_le _, rfl, by rw [Hz.out]; exact HZ.out, fun h => by omega, HB.out⟩
    · obtain ⟨j, rfl⟩ : ∃ j, k = j + 1 := ⟨k - 1, by omega⟩
      obtain ⟨b, o, rfl, -, hbl, hc⟩ := HR.out (by have := Hz.out; omega)
      have hc1 := hc j (by have := Hz.out; omega)
      clear hc
      by_cases hz0 : zs.getD j 0 = 0
      · have HN2 : Hid (∀ i, j ≤ i → i < n → zs.getD i 0 = 0) := fun i h1 h2 => by
          by_cases e : i = j
          · subst e; exact hz0
          · exact HZ.out i (by omega) h2
        rw [hz0] at hc1
        clear hz0 hk0
        go_wp2
        go_round
        case rel => exact ⟨j, by omega, by go_num, HN2.out⟩
        case measure => simp [intOf] <;> omega
      · have HF : Hid (zs.getD j 0 ≠ 0) := hz0
        have hz1 : (zs.getD j 0 == 0) = false := by simpa using hz0
        clear hz0 hk0
        generalize hzz : zs.getD j 0 = z at *
        have Hzz := Lib.hid hzz
        clear hzz
        have HB : ∀ x, Hid (Below w.heap.size w (w.alloc (.cells #[.bool x, .slice (some ⟨b, o, none⟩) (j + 1) cap] 45))) := fun x => (Below.refl _ _).alloc (Nat.le_refl _) _
        have HB1 := Lib.hid HB
        clear HB
        cases neg <;> go_wp2
        · exact bodyPost_ret (v := .agg #[.bool false, .slice (some ⟨b, o, none⟩) (j + 1) cap]) (by simp [results, Tryd.results55, go_sem]) rfl ⟨j + 1, by rw [Hz.out]; exact hk, rfl, by rw [Hz.out]; exact HZ.out, fun _ => by rw [Nat.add_sub_cancel, Hzz.out]; exact HF.out, (HB1.out _).out⟩
        · exact bodyPost_ret (v := .agg #[.bool true, .slice (some ⟨b, o, none⟩) (j + 1) cap]) (by simp [results, Tryd.results55, go_sem]) rfl ⟨j + 1, by rw [Hz.out]; exact hk, by simp, by rw [Hz.out]; exact HZ.out, fun _ => by rw [Nat.add_sub_cancel, Hzz.out]; exact HF.out, (HB1.out _).out⟩

end Go.Proofs.YthmjcjoecelnmaaDoor
