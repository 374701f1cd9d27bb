/-
  The plain account of a journal's text, and the check number's walks, the reference's and the program's. No condition beyond those typed.
-/
import Derived.Test.YthmjcjoecelnmaaDoorNe
namespace Go.Proofs.YthmjcjoecelnmaaDoor
open Go.RowKit
set_option linter.unusedVariables false

/-- The check number after these bytes. -/
def chk (n : Int) (l : List UInt8) : Int := l.foldl (fun n b => (257 * n + (b.toNat : Int)) % 9973) n

theorem chk_range (l : List UInt8) : ∀ n : Int, 0 ≤ n → n < 9973 → 0 ≤ chk n l ∧ chk n l < 9973 := by
  induction l with
  | nil => intro n h0 h1; exact ⟨h0, h1⟩
  | cons b l ih => intro n h0 h1; exact ih ((257 * n + (b.toNat : Int)) % 9973) (by omega) (by omega)

theorem chk_step (n : Int) (s : ByteArray) (i : Nat) (h : i < s.size) : (257 * chk n (s.data.toList.take i) + ((s[i]'h).toNat : Int)) % 9973 = chk n (s.data.toList.take (i + 1)) := by
  have h2 : i < s.data.toList.length := by simpa using h
  rw [List.take_succ_eq_append_getElem h2]
  unfold chk
  rw [List.foldl_append]
  rfl

theorem byte_lt (b : UInt8) : (b.toNat : Int) ≤ 255 := by
  have : b.toNat < 256 := b.toNat_lt
  omega

set_option maxHeartbeats 400000 in
theorem specCheck_any (n : Int) (s : ByteArray) (w : World) (h0 : 0 ≤ n) (h1 : n < 9973) (hs : s.size ≤ 4000) :
    Calls Tryd.prog 27 #[.int .i64 n, .string s] w fun e w' => e = .returned (.int .i64 (chk n s.data.toList)) ∧ w' = w := by
  go_enter Tryd.func27, Tryd.ntmps27
  go_wp2
  go_loop [0, 5] (fun r i => ∃ k : Nat, k ≤ s.size ∧ i = .int .i64 k ∧ r = .int .i64 (chk n (s.data.toList.take k))) (fun _ i => s.size - (intOf i).toNat)
  case atStart => exact ⟨0, by omega, rfl, rfl⟩
  case round =>
    obtain ⟨k, hk, rfl, rfl⟩ := hrel
    obtain ⟨c0, c1⟩ := chk_range (s.data.toList.take k) n h0 h1
    by_cases hlt : k < s.size
    · have HS := Lib.hid (chk_step n s k hlt)
      have hb := byte_lt (s[k]'hlt)
      have hb0 : (0 : Int) ≤ ((s[k]'hlt).toNat : Int) := Int.natCast_nonneg _
      generalize chk n (s.data.toList.take k) = R at *
      go_wp2
      go_round
      case rel => exact ⟨k + 1, by omega, by go_num, by rw [← HS.out]⟩
      case measure => simp [intOf] <;> omega
    · obtain rfl : k = s.size := by omega
      have e : s.data.toList.take s.size = s.data.toList := List.take_of_length_le (by simp)
      rw [e] at c0 c1 ⊢
      have HE : Hid (chk n s.data.toList = chk n s.data.toList) := rfl
      go_wp2
      go_ret
      exact ⟨rfl, rfl⟩

set_option maxHeartbeats 400000 in
theorem implCheck_any (n : Int) (s : ByteArray) (w : World) (h0 : 0 ≤ n) (h1 : n < 9973) (hs : s.size ≤ 4000) :
    Calls Tryd.prog 29 #[.int .i64 n, .string s] w fun e w' => e = .returned (.int .i64 (chk n s.data.toList)) ∧ w' = w := by
  go_enter Tryd.func29, Tryd.ntmps29
  go_wp2
  go_loop [0, 8] (fun r i => ∃ k : Nat, k ≤ s.size ∧ i = .int .i64 k ∧ r = .int .i64 (chk n (s.data.toList.take k))) (fun _ i => s.size - (intOf i).toNat)
  case atStart => exact ⟨0, by omega, rfl, rfl⟩
  case round =>
    obtain ⟨k, hk, rfl, rfl⟩ := hrel
    obtain ⟨c0, c1⟩ := chk_range (s.data.toList.take k) n h0 h1
    by_cases hlt : k < s.size
    · have HS := Lib.hid (chk_step n s k hlt)
      have hb := byte_lt (s[k]'hlt)
      have hb0 : (0 : Int) ≤ ((s[k]'hlt).toNat : Int) := Int.natCast_nonneg _
      generalize chk n (s.data.toList.take k) = R at *
      go_wp2
      go_round
      case rel => exact ⟨k + 1, by omega, by go_num, by rw [← HS.out]⟩
      case measure => simp [intOf] <;> omega
    · obtain rfl : k = s.size := by omega
      have e : s.data.toList.take s.size = s.data.toList := List.take_of_length_le (by simp)
      rw [e] at c0 c1 ⊢
      have HE : Hid (chk n s.data.toList = chk n s.data.toList) := rfl
      go_wp2
      go_ret
      exact ⟨rfl, rfl⟩

end Go.Proofs.YthmjcjoecelnmaaDoor
