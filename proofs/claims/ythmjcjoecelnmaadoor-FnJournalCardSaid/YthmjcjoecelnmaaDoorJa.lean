/-
  The law's helpers over []string: the measure of the whole, and the copy. Condition of the copy: at most 1048576 texts.
-/
import Derived.Test.YthmjcjoecelnmaaDoorRf
import Derived.Deep.OwnRows
namespace Go.Proofs.YthmjcjoecelnmaaDoor
open Go.RowKit
set_option linter.unusedVariables false

/-- The bytes of these texts. -/
def lsum : List (List UInt8) → Nat
  | [] => 0
  | a :: r => a.length + lsum r
theorem lsum_take (L : List (List UInt8)) : ∀ k, k < L.length → lsum (L.take (k + 1)) = lsum (L.take k) + (L.getD k []).length := by
  induction L with
  | nil => intro k h; simp at h
  | cons a r ih =>
    intro k h
    cases k with
    | zero => simp [lsum]
    | succ k =>
      have := ih k (by simpa using h)
      simp [lsum] at *
      omega

/-- What the measure says: below 0, or all of it is small. -/
def Small (L : List (List UInt8)) (r : Int) : Prop := r < 0 ∨ (0 ≤ r ∧ L.length + lsum L ≤ 1048576)

set_option maxHeartbeats 400000 in
theorem size_any (ao : Option Addr) (cap : Nat) (L : List (List UInt8)) (w : World) (ha : TxtAt 0 w ao L) (hl : L.length ≤ 9223372036854775807) (hs : ∀ a ∈ L, a.length ≤ 9223372036854775807) :
    Calls Tryd.prog 14 #[.slice ao L.length cap, .int .i64 1048576] w fun e w' => (∃ r, e = .returned (.int .i64 r) ∧ Small L r) ∧ w' = w := by
  generalize hn : L.length = n at *
  have Hn := Lib.hid hn
  have HA := Lib.hid ha
  have HS := Lib.hid hs
  clear hn ha hs
  go_enter Tryd.func14, Tryd.ntmps14
  by_cases hbig : 1048576 < n
  · go_wp2
    go_ret
    exact ⟨⟨-1, rfl, .inl (by omega)⟩, rfl⟩
  · go_wp2
    go_loop [1, 5] (fun f i => ∃ k F : Nat, i = .int .i64 k ∧ f = .int .i64 F ∧ k ≤ n ∧ F + n + lsum (L.take k) = 1048576) (fun _ i => n - (intOf i).toNat)
    case atStart => exact ⟨0, 1048576 - n, rfl, by congr 1; omega, Nat.zero_le _, by simp [lsum]; omega⟩
    case round =>
      obtain ⟨k, F, rfl, rfl, hk, hF⟩ := hrel
      by_cases hlt : k < n
      · obtain ⟨b, o, rfl, -, hbl, hc⟩ := HA.out (by rw [Hn.out]; omega)
        have c0 := hc k (by rw [Hn.out]; exact hlt)
        have hst := lsum_take L k (by rw [Hn.out]; exact hlt)
        have hal : (L.getD k []).length ≤ 9223372036854775807 := by
          rw [List.getD_eq_getElem?_getD, List.getElem?_eq_getElem (by rw [Hn.out]; exact hlt)]
          exact HS.out _ (List.getElem_mem _)
        clear hc
        have hF2 := Lib.hid hF
        have HSt := Lib.hid hst
        have hFb : F ≤ 1048576 := by omega
        clear hF hst
        generalize ha : L.getD k [] = a at *
        unfold sv at c0
        by_cases hneg : F < a.length
        · go_wp2
          go_ret
          exact ⟨⟨-1, rfl, .inl (by omega)⟩, rfl⟩
        · go_wp2
          go_round
          case rel => exact ⟨k + 1, F - a.length, by go_num, by congr 1; omega, by omega, by have := hF2.out; have := HSt.out; omega⟩
          case measure => simp [intOf] <;> omega
      · obtain rfl : k = n := by omega
        have e : lsum (L.take k) = lsum L := by rw [List.take_of_length_le (by rw [Hn.out]; exact Nat.le_refl _)]
        have HF : Hid (k + lsum L ≤ 1048576) := by show k + lsum L ≤ 1048576; omega
        clear hF e
        go_wp2
        go_ret
        exact ⟨⟨F, rfl, .inr ⟨by omega, by rw [Hn.out]; exact HF.out⟩⟩, rfl⟩

/-- What the copy returns. -/
def CopiedS (L : List (List UInt8)) (w : World) (e : Ending) (w' : World) : Prop :=
  ∃ ao cap, e = .returned (.slice ao L.length cap) ∧ TxtAt w.heap.size w' ao L ∧ Below w.heap.size w w'

/-- The first k texts are there, the others are empty. -/
def partS (L : List (List UInt8)) (k : Nat) (j : Nat) : Value := if j < k then sv (L.getD j []) else .string ⟨#[]⟩

set_option maxHeartbeats 400000 in
theorem toS_any (ao : Option Addr) (L : List (List UInt8)) (cap : Nat) (w : World) (hr : TxtAt 0 w ao L) (hl : L.length ≤ 1048576) :
    Calls Tryd.prog 16 #[.slice ao L.length cap] w (CopiedS L w) := by
  generalize hn : L.length = n at *
  have Hn := Lib.hid hn
  have HR := Lib.hid hr
  clear hr hn
  have hmk := run_make_row' (P := Tryd.prog) 24 9 (.string ⟨#[]⟩) 16 Tryd.underlying24 Tryd.info9 rfl .i64 .i64 n (by omega) (by omega)
  go_enter Tryd.func16, Tryd.ntmps16
  go_wp2
  go_loopw [4] (fun i wr => ∃ k : Nat, k ≤ n ∧ i = .int .i64 k ∧ wr.rowIs w.heap.size 9 n (partS L k) ∧ Below w.heap.size w wr) (fun i _ => n - (intOf i).toNat)
  case atStart =>
    exact ⟨0, by omega, rfl, (World.rowIs_made w (.string ⟨#[]⟩) n 9).congr (fun i hi => by simp [partS]), (Below.refl _ _).alloc (Nat.le_refl _) _⟩
  case round =>
    obtain ⟨k, hk, rfl, hrow, hb⟩ := hrel
    have HRow := Lib.hid hrow
    have HB := Lib.hid hb
    by_cases hlt : k < n
    · obtain ⟨b, o, rfl, -, hbl, hc⟩ := HR.out (by have := Hn.out; omega)
      have hc1 : wr.cell? ⟨b, o + k, none⟩ = some (sv (L.getD k [])) := (hb.cell (p := ⟨b, o + k, none⟩) hbl).trans (hc k (by have := Hn.out; omega))
      have hc2 := hrow.cell hlt
      have hf := hrow.frozen k
      have hlt2 := hrow.lt
      clear hc hrow hb
      generalize hz : L.getD k [] = z at *
      have Hz := Lib.hid hz
      clear hz
      unfold sv at hc1
      go_wp2
      go_roundw
      case rel =>
        refine ⟨k + 1, by omega, by go_num, (HRow.out.set k _).congr (fun j hj => ?_), HB.out.setCell (Nat.le_refl _) _⟩
        by_cases e : j = k
        · subst e; simp [partS]; rw [show (L[j]?.getD []) = z by rw [← List.getD_eq_getElem?_getD]; exact Hz.out]; rfl
        · have : (j < k + 1) ↔ (j < k) := by omega
          simp [partS, e, this]
      case measure => simp [intOf]; omega
    · clear hrow hb
      go_wp2
      go_ret
      have e := Hn.out
      refine ⟨some ⟨w.heap.size, 0, none⟩, n, by rw [e]; rfl, fun h0 => ⟨w.heap.size, 0, rfl, Nat.le_refl _, HRow.out.lt, fun t ht => ?_⟩, HB.out⟩
      rw [Nat.zero_add, HRow.out.cell (by omega)]
      have : t < k := by omega
      simp [partS, this]

end Go.Proofs.YthmjcjoecelnmaaDoor
