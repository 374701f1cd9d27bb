/-
  The law's marks written over a slice of texts, and looked at. Conditions: marks from 1 to 4001; at most 4000 texts.
-/
import Derived.Test.YthmjcjoecelnmaaDoorRf
namespace Go.Proofs.YthmjcjoecelnmaaDoor
open Go.RowKit
set_option linter.unusedVariables false

/-- The marks from k on. -/
def marks (k n : Nat) : List (List UInt8) := (List.range n).map fun i => mark (k + i)
theorem marks_length (k n : Nat) : (marks k n).length = n := by simp [marks]
theorem marks_get (k n t : Nat) (h : t < n) : (marks k n).getD t [] = mark (k + t) := by simp [marks, List.getD, h]
theorem marks_set (K k : Nat) (L : List (List UInt8)) (h : k < L.length) : ((marks K k ++ L.drop k).map sv).set k (sv (mark (K + k))) = (marks K (k + 1) ++ L.drop (k + 1)).map sv := by
  have h1 : marks K (k + 1) = marks K k ++ [mark (K + k)] := by simp [marks, List.range_succ]
  rw [h1]
  simp [marks_length]
  rw [List.drop_eq_getElem_cons (by simpa using h)]
  rfl

set_option maxHeartbeats 400000 in
theorem marks_any (lo : Nat) (v : Value) (L : List (List UInt8)) (K : Nat) (w : World) (hown : w.ownsRow lo 9 1 v L.length (L.map sv)) (hlo : lo ≤ w.heap.size) (h0 : 0 < K) (h1 : K ≤ 4001) (hl : L.length ≤ 4000) :
    Calls Tryd.prog 12 #[v, .int .i64 K] w fun e w' => e = .returned (.int .i64 (K + L.length : Nat)) ∧ w'.ownsRow lo 9 1 v L.length ((marks K L.length).map sv) ∧ Below lo w w' := by
  have HOwn := Lib.hid hown
  have h2 := hown.2
  clear hown
  rcases h2 with ⟨rfl, hn⟩ | ⟨g, cap, cur, rfl, hg, -, hnc, hcap, -, -⟩
  · have hL : L = [] := List.length_eq_zero_iff.1 hn
    subst hL
    go_enter Tryd.func12, Tryd.ntmps12
    go_wp2
    go_loop [1, 5] (fun a b => a = .int .i64 K ∧ b = .int .i64 0) (fun _ _ => 0)
    case atStart => exact ⟨rfl, rfl⟩
    case round =>
      obtain ⟨rfl, rfl⟩ := hrel
      go_wp2
      go_ret
      exact ⟨rfl, HOwn.out, Below.refl _ _⟩
  · generalize hn : L.length = n at *
    have Hn := Lib.hid hn
    clear hn
    unfold maxLen at hcap
    go_enter Tryd.func12, Tryd.ntmps12
    go_wp2
    go_loopw [1, 5] (fun a b wr => ∃ k : Nat, a = .int .i64 (K + k : Nat) ∧ b = .int .i64 k ∧ k ≤ n ∧ wr.ownsRow lo 9 1 (.slice (some ⟨g, 0, none⟩) n cap) n ((marks K k ++ L.drop k).map sv) ∧ Below lo w wr) (fun _ b _ => n - (intOf b).toNat)
    case atStart => exact ⟨0, rfl, rfl, Nat.zero_le _, HOwn.out, Below.refl _ _⟩
    case round =>
      obtain ⟨k, rfl, rfl, hk, hown, hb⟩ := hrel
      have HO := Lib.hid hown
      have HB := Lib.hid hb
      have hsz := hb.size
      clear hown hb
      by_cases hlt : k < n
      · go_wp2_with fail
        refine (mark_any (K + k) _ (by omega) (by omega)).mono ?_
        rintro e w2 ⟨rfl, hb2⟩
        have ho2 := own_keep HO.out hb2
        have HO2 := Lib.hid ho2
        have c0 : w2.cell? ⟨g, k, none⟩ = some (((marks K k ++ L.drop k).map sv).getD k undef) := by
          rw [ho2.cellAt k (by omega), List.getD_eq_getElem?_getD]
          have : k < ((marks K k ++ L.drop k).map sv).length := by simp [marks_length, Hn.out]; omega
          rw [List.getElem?_eq_getElem this]
          rfl
        have f0 := ho2.frozenAt k
        have HS := Lib.hid (ho2.stored k (sv (mark (K + k))))
        have HB2 : Hid (Below lo w w2) := HB.out.trans (hb2.mono (by omega))
        clear hb2 ho2
        generalize ((marks K k ++ L.drop k).map sv).getD k undef = old at c0
        unfold sv
        go_wp2
        go_roundw
        case rel =>
          refine ⟨k + 1, by go_num, by go_num, by omega, ?_, ?_⟩
          · have h := HS.out.1
            rw [marks_set K k L (by rw [Hn.out]; exact hlt)] at h
            exact h
          · exact HB2.out.setCell (by first | exact hg | omega) _
        case measure => simp [intOf] <;> omega
      · obtain rfl : k = n := by omega
        have HF : Hid (wr.ownsRow lo 9 1 (.slice (some ⟨g, 0, none⟩) k cap) k ((marks K k).map sv)) := by
          have h := HO.out
          rw [List.drop_of_length_le (by rw [Hn.out]; exact Nat.le_refl _), List.append_nil] at h
          exact h
        go_wp2
        go_ret
        exact ⟨ret_int (by omega), HF.out, HB.out⟩

theorem mark_str (K : Nat) (w : World) (h0 : 0 < K) (h1 : K ≤ 9000) :
    Calls Tryd.prog 31 #[.int .i64 K] w fun e w' => e = .returned (.string ⟨(mark K).toArray⟩) ∧ Below w.heap.size w w' := mark_any K w h0 h1

set_option maxHeartbeats 400000 in
theorem held_any (ao : Option Addr) (cap n K : Nat) (w : World) (ha : TxtAt 0 w ao (marks K n)) (h0 : 0 < K) (h1 : K ≤ 4001) (hl : n ≤ 4000) :
    Calls Tryd.prog 13 #[.slice ao n cap, .int .i64 K] w fun e w' => e = .returned (.int .i64 (K + n : Nat)) ∧ Below w.heap.size w w' := by
  have HA := Lib.hid ha
  clear ha
  go_enter Tryd.func13, Tryd.ntmps13
  go_wp2
  go_loopw [1, 5] (fun a b wr => ∃ k : Nat, a = .int .i64 (K + k : Nat) ∧ b = .int .i64 k ∧ k ≤ n ∧ Below w.heap.size w wr) (fun _ b _ => n - (intOf b).toNat)
  case atStart => exact ⟨0, rfl, rfl, Nat.zero_le _, Below.refl _ _⟩
  case round =>
    obtain ⟨k, rfl, rfl, hk, hb⟩ := hrel
    have HB := Lib.hid hb
    have hsz := hb.size
    clear hb
    by_cases hlt : k < n
    · obtain ⟨b, o, rfl, -, hbl, hc⟩ := HA.out (by rw [marks_length]; omega)
      have hbl2 : b < wr.heap.size := Nat.lt_of_lt_of_le hbl hsz
      have c0 := (HB.out.cell (p := ⟨b, o + k, none⟩) hbl).trans (hc k (by rw [marks_length]; exact hlt))
      rw [marks_get K n k hlt] at c0
      unfold sv at c0
      clear hc
      go_wp2
      go_region_with (first | (go_at_call 31; refine (mark_str (K + k) _ (by omega) (by omega)).mono ?_; rintro e w2 ⟨rfl, hb20⟩; have hb2 : Below wr.heap.size wr w2 := ((Below.refl _ wr).drew).trans hb20; have c1 := (hb2.cell (p := ⟨b, o + k, none⟩) hbl2).trans c0; have HB2 : Hid (Below w.heap.size w w2) := HB.out.trans (hb2.mono hsz); clear hb20 hb2))
      all_goals
        go_wp2
        go_roundw
        case rel => exact ⟨k + 1, by go_num, by go_num, by omega, HB2.out⟩
        case measure => simp [intOf] <;> omega
    · obtain rfl : k = n := by omega
      go_wp2
      go_ret
      exact ⟨ret_int (by omega), HB.out⟩

end Go.Proofs.YthmjcjoecelnmaaDoor
