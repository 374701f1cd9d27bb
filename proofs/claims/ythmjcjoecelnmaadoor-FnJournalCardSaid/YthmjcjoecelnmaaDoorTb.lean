/-
  l11Find and l11Name by their contracts: an index or -1; whether a text is a name.
-/
import Derived.Test.YthmjcjoecelnmaaDoorTa
namespace Go.Proofs.YthmjcjoecelnmaaDoor
open Go.RowKit
set_option linter.unusedVariables false

theorem find_any (D : Nat) (ao : Option Addr) (ca : Nat) (L : List (List UInt8)) (s : ByteArray) (w : World) (h0 : w.cell? ⟨D, 0, none⟩ = some (.slice ao L.length ca)) (ht : TxtAt 0 w ao L) (hl : L.length ≤ 100) :
    Calls Tryd.prog 65 #[.pointer (some ⟨D, 0, none⟩), .string s] w fun e w' => (∃ k : Int, e = .returned (.int .i64 k) ∧ -1 ≤ k ∧ k < L.length) ∧ w' = w := by
  have HT := Lib.hid ht
  generalize hN : L.length = n at *
  have HN := Lib.hid hN
  clear ht hN
  go_enter Tryd.func65, Tryd.ntmps65
  go_wp2
  go_loop [5] (fun i => ∃ k : Nat, i = .int .i64 k ∧ k ≤ n) (fun i => n - (intOf i).toNat)
  case atStart => exact ⟨0, rfl, Nat.zero_le _⟩
  case round =>
    obtain ⟨k, rfl, hk⟩ := hrel
    by_cases hlt : k < n
    · obtain ⟨b, o, rfl, -, hbl, hcell⟩ := HT.out (by rw [HN.out]; omega)
      have ck : w.cell? ⟨b, o + k, none⟩ = some (.string ⟨(L.getD k []).toArray⟩) := hcell k (by rw [HN.out]; exact hlt)
      clear hcell
      generalize L.getD k [] = a at *
      go_wp2_with fail
      case roundEnd =>
        go_round
        case rel => exact ⟨k + 1, by go_num, by omega⟩
        case measure => simp [intOf]; omega
      go_ret
      exact ⟨⟨k, rfl, by omega, by omega⟩, rfl⟩
    · obtain rfl : k = n := by omega
      go_wp2
      go_ret
      exact ⟨⟨-1, rfl, by omega, by omega⟩, rfl⟩

/-- A yes or a no. -/
def YesNo (e : Ending) : Prop := ∃ b : Bool, e = .returned (.bool b)

theorem name_any (s : ByteArray) (w : World) (hs : s.size ≤ 1000) :
    Calls Tryd.prog 66 #[.string s] w fun e w' => YesNo e ∧ w' = w := by
  go_enter Tryd.func66, Tryd.ntmps66
  go_wp2
  go_loop [3] (fun i => ∃ k : Nat, i = .int .i64 k ∧ k ≤ s.size) (fun i => s.size - (intOf i).toNat)
  case atStart => exact ⟨0, rfl, Nat.zero_le _⟩
  case round =>
    obtain ⟨k, rfl, hk⟩ := hrel
    by_cases hlt : k < s.size
    · go_wp2_with fail
      case roundEnd =>
        go_round
        case rel => exact ⟨k + 1, by go_num, by omega⟩
        case measure => simp [intOf]; omega
      all_goals
        go_ret
        exact ⟨⟨_, rfl⟩, rfl⟩
    · obtain rfl : k = s.size := by omega
      go_wp2
      all_goals
        go_ret
        exact ⟨⟨_, rfl⟩, rfl⟩

end Go.Proofs.YthmjcjoecelnmaaDoor
