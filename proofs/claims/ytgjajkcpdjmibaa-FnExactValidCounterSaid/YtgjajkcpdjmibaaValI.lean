/-
  The law on ValidCounter, walked: it returns true for every counter in memory. Conditions: what a counter that came in offers.
-/
import Derived.Test.YtgjajkcpdjmibaaValH
import Derived.Deep.RegionWith
namespace Go.Proofs.Ytgjajkcpdjmibaa
open Go.RowKit
set_option linter.unusedVariables false

set_option maxHeartbeats 1000000 in
theorem valid_walk (na aa : Option Addr) (nc ac : Nat) (rows : List (List Int)) (acc : List Int) (w : World) (hN : RowsAt 0 w na rows) (hA : RowAt 0 w aa acc) (hl : rows.length ≤ 9223372036854775807) (hl1 : ∀ t, t < rows.length → (rows.getD t []).length ≤ 9223372036854775807) (hl2 : acc.length ≤ 9223372036854775807) :
    Calls Try.prog 7 #[.agg #[.slice na rows.length nc, .slice aa acc.length ac]] w fun e w' => e = .returned (.bool true) ∧ Below w.heap.size w w' := by
  have HN : Hid (RowsAt 0 w na rows) := hN
  have HA : Hid (RowAt 0 w aa acc) := hA
  have HL := Lib.hid hl1
  have B0 : ∀ c t, Below w.heap.size w (w.alloc (.cells c t)) := fun c t => (Below.refl _ _).alloc (Nat.le_refl _) _
  have HB0 := Lib.hid B0
  clear hN hA hl1 B0
  go_enter Try.func7, Try.ntmps7
  go_wp2_with fail
  refine (szC_any _ _ _ _ rows acc _ (HN.out.keep (HB0.out _ _)) hl HL.out hl2).mono ?_
  rintro e w1 ⟨r, rfl, hsm, hb1⟩
  have b1 : Below (w.heap.size + 1) _ w1 := hb1.mono (by simp)
  have c0 : w1.cell? ⟨w.heap.size, 0, none⟩ = some (.slice na rows.length nc) := (b1.cell (p := ⟨w.heap.size, 0, none⟩) (Nat.lt_succ_self _)).trans (World.cell?_alloc_new _ _ _ 0)
  have c1 : w1.cell? ⟨w.heap.size, 1, none⟩ = some (.slice aa acc.length ac) := (b1.cell (p := ⟨w.heap.size, 1, none⟩) (Nat.lt_succ_self _)).trans (World.cell?_alloc_new _ _ _ 1)
  have HB1 : Hid (Below w.heap.size w w1) := (HB0.out _ _).trans (b1.mono (Nat.le_succ _))
  have s1 : w.heap.size < w1.heap.size := by have := b1.size; simp at this; omega
  have HS := Lib.hid hsm
  clear hb1 b1 hsm
  by_cases hr : r < 0
  · go_wp2
    go_ret
    exact ⟨rfl, HB1.out⟩
  have HSm := Lib.hid (HS.out (by omega))
  -- the first copy, and the reference's answer
  go_wp2_with fail
  refine (toC_any _ _ _ _ rows acc _ (HN.out.keep HB1.out) (HA.out.keep HB1.out) HSm.out).mono ?_
  rintro e w2 ⟨na2, nc2, aa2, ac2, rfl, hN2, hA2, hb2⟩
  have d0 := (hb2.cell (p := ⟨w.heap.size, 0, none⟩) s1).trans c0
  have d1 := (hb2.cell (p := ⟨w.heap.size, 1, none⟩) s1).trans c1
  have s2 : w.heap.size < w2.heap.size := Nat.lt_of_lt_of_le s1 hb2.size
  have HB2 : Hid (Below w.heap.size w w2) := HB1.out.trans (hb2.mono (Nat.le_of_lt s1))
  have HN2 := Lib.hid hN2
  have HA2 := Lib.hid hA2
  clear c0 c1 s1 hb2 hN2 hA2
  go_wp2_with fail
  refine (specCounter_any _ _ _ _ rows acc _ HN2.out HA2.out HSm.out).mono ?_
  rintro e w3 ⟨rfl, hb3⟩
  have e0 := (hb3.cell (p := ⟨w.heap.size, 0, none⟩) s2).trans d0
  have e1 := (hb3.cell (p := ⟨w.heap.size, 1, none⟩) s2).trans d1
  have s3 : w.heap.size < w3.heap.size := Nat.lt_of_lt_of_le s2 hb3.size
  have HB3 : Hid (Below w.heap.size w w3) := HB2.out.trans (hb3.mono (Nat.le_of_lt s2))
  clear d0 d1 s2 hb3
  -- the second copy, and the program's answer
  go_wp2_with fail
  refine (toC_any _ _ _ _ rows acc _ (HN.out.keep HB3.out) (HA.out.keep HB3.out) HSm.out).mono ?_
  rintro e w4 ⟨na4, nc4, aa4, ac4, rfl, hN4, hA4, hb4⟩
  have f0 := (hb4.cell (p := ⟨w.heap.size, 0, none⟩) s3).trans e0
  have f1 := (hb4.cell (p := ⟨w.heap.size, 1, none⟩) s3).trans e1
  have s4 : w.heap.size < w4.heap.size := Nat.lt_of_lt_of_le s3 hb4.size
  have HB4 : Hid (Below w.heap.size w w4) := HB3.out.trans (hb4.mono (Nat.le_of_lt s3))
  have HN4 := Lib.hid hN4
  have HA4 := Lib.hid hA4
  clear e0 e1 s3 hb4 hN4 hA4
  go_wp2_with fail
  refine (implCounter_any _ _ _ _ rows acc _ (HN4.out.keep ((Below.refl _ _).alloc (Nat.le_refl _) _)) (HA4.out.keep ((Below.refl _ _).alloc (Nat.le_refl _) _)) HSm.out.1 HSm.out.2.1 HSm.out.2.2).mono ?_
  rintro e w5 ⟨rfl, hb5⟩
  have b5 : Below (w4.heap.size + 1) _ w5 := hb5.mono (by simp)
  have x0 : w5.cell? ⟨w4.heap.size, 0, none⟩ = some (.slice na4 rows.length nc4) := (b5.cell (p := ⟨w4.heap.size, 0, none⟩) (Nat.lt_succ_self _)).trans (World.cell?_alloc_new _ _ _ 0)
  have x1 : w5.cell? ⟨w4.heap.size, 1, none⟩ = some (.slice aa4 acc.length ac4) := (b5.cell (p := ⟨w4.heap.size, 1, none⟩) (Nat.lt_succ_self _)).trans (World.cell?_alloc_new _ _ _ 1)
  have b45 : Below w4.heap.size w4 w5 := ((Below.refl _ _).alloc (Nat.le_refl _) _).trans (b5.mono (Nat.le_succ _))
  have g0 := (b45.cell (p := ⟨w.heap.size, 0, none⟩) s4).trans f0
  have g1 := (b45.cell (p := ⟨w.heap.size, 1, none⟩) s4).trans f1
  have sx : w4.heap.size < w5.heap.size := by have := b5.size; simp at this; omega
  have HB5 : Hid (Below w.heap.size w w5) := HB4.out.trans (b45.mono (Nat.le_of_lt s4))
  have HN5 : Hid (RowsAt 0 w5 na4 rows) := HN4.out.keep b45
  have HA5 : Hid (RowAt 0 w5 aa4 acc) := HA4.out.keep b45
  clear f0 f1 hb5 b5 b45
  go_wp2
  go_region_with (first | (go_at_call 16; refine (toC_any _ _ _ _ rows acc _ (HN.out.keep HB5.out.drew) (HA.out.keep HB5.out.drew) HSm.out).mono ?_; rintro e w6 ⟨na6, nc6, aa6, ac6, rfl, hN6, hA6, hb60⟩; have hb6 : Below w5.heap.size w5 w6 := ((Below.refl _ w5).drew).trans hb60; have z0 := (hb6.cell (p := ⟨w4.heap.size, 0, none⟩) sx).trans x0; have z1 := (hb6.cell (p := ⟨w4.heap.size, 1, none⟩) sx).trans x1; have HB6 : Hid (Below w.heap.size w w6) := HB5.out.trans (hb6.mono (Nat.le_of_lt (Nat.lt_trans s4 sx))); have HN6 := Lib.hid hN6; have HA6 := Lib.hid hA6; have HNX : Hid (RowsAt 0 w6 na4 rows) := HN5.out.keep hb6; have HAX : Hid (RowAt 0 w6 aa4 acc) := HA5.out.keep hb6; clear hN6 hA6 hb6 hb60) | (go_at_call 18; refine (eqC_any _ _ _ _ _ _ _ _ rows acc _ HNX.out HAX.out HN6.out HA6.out HSm.out).mono ?_; rintro e w7 ⟨rfl, hb7⟩; have HB7 : Hid (Below w.heap.size w w7) := HB6.out.trans (hb7.mono HB6.out.size); clear hb7))
  all_goals (go_wp2; go_ret; exact ⟨rfl, by first | exact HB7.out | (have := HB7.out; exact this)⟩)

end Go.Proofs.Ytgjajkcpdjmibaa
