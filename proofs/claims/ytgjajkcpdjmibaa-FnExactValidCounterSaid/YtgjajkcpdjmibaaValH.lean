/-
  The law's helpers on a counter (its size, its copy, the comparison of two) and the reference's test of a counter by value, each by its contract. Conditions: the lengths that each theorem types.
-/
import Derived.Test.YtgjajkcpdjmibaaValG
namespace Go.Proofs.Ytgjajkcpdjmibaa
open Go.RowKit
set_option linter.unusedVariables false

/-- The sizes are small. -/
def Small (rows : List (List Int)) (acc : List Int) : Prop := rows.length ≤ 1048576 ∧ (∀ t, t < rows.length → (rows.getD t []).length ≤ 1048576) ∧ acc.length ≤ 1048576

/-- A number is returned; where it isn't negative the counter is small. -/
def SizeC (rows : List (List Int)) (acc : List Int) (w : World) (e : Ending) (w' : World) : Prop :=
  ∃ r : Int, e = .returned (.int .i64 r) ∧ (0 ≤ r → Small rows acc) ∧ Below w.heap.size w w'

set_option maxHeartbeats 400000 in
theorem szC_any (na aa : Option Addr) (nc ac : Nat) (rows : List (List Int)) (acc : List Int) (w : World) (hN : RowsAt 0 w na rows) (hl : rows.length ≤ 9223372036854775807) (hl1 : ∀ t, t < rows.length → (rows.getD t []).length ≤ 9223372036854775807) (hl2 : acc.length ≤ 9223372036854775807) :
    Calls Try.prog 14 #[.agg #[.slice na rows.length nc, .slice aa acc.length ac], .int .i64 1048576] w (SizeC rows acc w) := by
  have HN : Hid (RowsAt 0 w na rows) := hN
  have HL := Lib.hid hl1
  clear hN hl1
  go_enter Try.func14, Try.ntmps14
  go_wp2_with fail
  refine (sz2_any _ _ _ _ _ (HN.out.keep ((Below.refl _ _).alloc (Nat.le_refl _) _)) hl HL.out (by omega) (by omega)).mono ?_
  rintro e w' ⟨⟨r, rfl, r0, r1, hsm⟩, rfl⟩
  have HS := Lib.hid hsm
  clear hsm
  by_cases hr : r < 0
  · go_wp2
    go_ret
    exact ⟨-1, rfl, fun h => by omega, (Below.refl _ _).alloc (Nat.le_refl _) _⟩
  · go_wp2_with fail
    refine (sz1_any _ _ _ _ _ hl2 (by omega) (by omega)).mono ?_
    rintro e w' ⟨rfl, rfl⟩
    by_cases hr2 : r - acc.length < 0
    · have e1 : less r acc.length = -1 := if_pos hr2
      rw [e1]
      clear e1
      go_wp2
      go_ret
      exact ⟨-1, rfl, fun h => by omega, (Below.refl _ _).alloc (Nat.le_refl _) _⟩
    · have e1 : less r acc.length = r - acc.length := if_neg hr2
      rw [e1]
      clear e1
      go_wp2
      go_ret
      refine ⟨r - acc.length, rfl, fun _ => ?_, (Below.refl _ _).alloc (Nat.le_refl _) _⟩
      obtain ⟨h1, h2⟩ := HS.out (by omega)
      exact ⟨by omega, fun t ht => by have := h2 t ht; omega, by omega⟩

/-- What a call that copies a counter returns. -/
def CopiedC (rows : List (List Int)) (acc : List Int) (w : World) (e : Ending) (w' : World) : Prop :=
  ∃ na nc aa ac, e = .returned (.agg #[.slice na rows.length nc, .slice aa acc.length ac]) ∧ RowsAt 0 w' na rows ∧ RowAt 0 w' aa acc ∧ Below w.heap.size w w'

theorem RowsAt.set {lo : Nat} {w : World} {ao : Option Addr} {rows : List (List Int)} (h : RowsAt lo w ao rows) {a : Addr} (ha : a.block < lo) (v : Value) : RowsAt lo (w.setCell a v) ao rows := by
  intro h0
  obtain ⟨b, o, e, l, hlt, hc⟩ := h h0
  refine ⟨b, o, e, l, by simpa [World.setCell] using hlt, fun t ht => ?_⟩
  obtain ⟨ra, rc, h1, h2⟩ := hc t ht
  refine ⟨ra, rc, ?_, h2.set ha v⟩
  rw [← h1]
  exact World.cell?_of_block (w := w) (a := ⟨b, o + t, none⟩) (Below.heap_setCell w a v b (by omega))

theorem own3 {w w1 : World} {c0 c1 c2 : Array Value} {t0 t1 t2 : TypeId} (hb : Below (w.heap.size + 3) (((w.alloc (.cells c0 t0)).alloc (.cells c1 t1)).alloc (.cells c2 t2)) w1) (i : Nat) :
    w1.cell? ⟨w.heap.size, i, none⟩ = c0[i]? ∧ w1.cell? ⟨w.heap.size + 1, i, none⟩ = c1[i]? ∧ w1.cell? ⟨w.heap.size + 2, i, none⟩ = c2[i]? ∧ w1.frozen? ⟨w.heap.size + 1, i, none⟩ = false ∧ w1.frozen? ⟨w.heap.size + 2, i, none⟩ = false ∧ w.heap.size + 2 < w1.heap.size := by
  have hs := hb.size
  simp at hs
  refine ⟨?_, ?_, ?_, ?_, ?_, by omega⟩
  · rw [hb.cell (p := ⟨w.heap.size, i, none⟩) (by show w.heap.size < _; omega)]; simp [go_sem]
  · rw [hb.cell (p := ⟨w.heap.size + 1, i, none⟩) (by show w.heap.size + 1 < _; omega)]; simp [go_sem]
  · rw [hb.cell (p := ⟨w.heap.size + 2, i, none⟩) (by show w.heap.size + 2 < _; omega)]; simp [go_sem]
  · rw [hb.frozen (p := ⟨w.heap.size + 1, i, none⟩) (by show w.heap.size + 1 < _; omega)]; simp [go_sem]
  · rw [hb.frozen (p := ⟨w.heap.size + 2, i, none⟩) (by show w.heap.size + 2 < _; omega)]; simp [go_sem]

set_option maxHeartbeats 1000000 in
theorem toC_any (na aa : Option Addr) (nc ac : Nat) (rows : List (List Int)) (acc : List Int) (w : World) (hN : RowsAt 0 w na rows) (hA : RowAt 0 w aa acc) (hl : Small rows acc) :
    Calls Try.prog 16 #[.agg #[.slice na rows.length nc, .slice aa acc.length ac]] w (CopiedC rows acc w) := by
  obtain ⟨l0, l1, l2⟩ := hl
  have HN : Hid (RowsAt 0 w na rows) := hN
  have HA : Hid (RowAt 0 w aa acc) := hA
  have HL := Lib.hid l1
  clear hN hA l1
  go_enter Try.func16, Try.ntmps16
  go_wp2_with fail
  refine (to2_any _ _ _ _ (HN.out.keep ((((Below.refl _ _).alloc (Nat.le_refl _) _).alloc (by simp) _).alloc (by simp <;> omega) _)) l0 HL.out).mono ?_
  rintro e w1 ⟨na', nc', rfl, hN', hb'⟩
  have hb1 : Below (w.heap.size + 3) _ w1 := hb'.mono (by simp)
  have q0 : w1.cell? ⟨w.heap.size + 1, 0, none⟩ = some (.slice none 0 0) := (own3 hb1 0).2.1
  have q1 : w1.cell? ⟨w.heap.size + 1, 1, none⟩ = some (.slice none 0 0) := (own3 hb1 1).2.1
  have r0 : w1.cell? ⟨w.heap.size + 1 + 1, 0, none⟩ = some (.slice none 0 0) := (own3 hb1 0).2.2.1
  have r1 : w1.cell? ⟨w.heap.size + 1 + 1, 1, none⟩ = some (.slice none 0 0) := (own3 hb1 1).2.2.1
  have p1 : w1.cell? ⟨w.heap.size, 1, none⟩ = some (.slice aa acc.length ac) := (own3 hb1 1).1
  have fq0 : w1.frozen? ⟨w.heap.size + 1, 0, none⟩ = false := (own3 hb1 0).2.2.2.1
  have fq1 : w1.frozen? ⟨w.heap.size + 1, 1, none⟩ = false := (own3 hb1 1).2.2.2.1
  have fr0 : w1.frozen? ⟨w.heap.size + 1 + 1, 0, none⟩ = false := (own3 hb1 0).2.2.2.2.1
  have fr1 : w1.frozen? ⟨w.heap.size + 1 + 1, 1, none⟩ = false := (own3 hb1 1).2.2.2.2.1
  have hs : w.heap.size + 1 + 1 < w1.heap.size := (own3 hb1 0).2.2.2.2.2
  have BW : Hid (Below w.heap.size w w1) := ((((Below.refl _ _).alloc (Nat.le_refl _) _).alloc (by simp) _).alloc (by simp <;> omega) _).trans (hb1.mono (by omega))
  have HN' : Hid (RowsAt (w.heap.size + 1 + 1 + 1) w1 na' rows) := hN'.low (by simp)
  clear hb' hb1 hN'
  go_wp2_with fail
  refine (to1_any _ _ _ _ (HA.out.keep (BW.out.setCell (by show w.heap.size ≤ w.heap.size + 1 + 1; omega) _)) l2).mono ?_
  rintro e w2 ⟨aa', ac', rfl, hA', hb2⟩
  have hs1 : w.heap.size + 1 + 1 < (w1.setCell ⟨w.heap.size + 1 + 1, 0, none⟩ (.slice na' rows.length nc')).heap.size := by simpa [World.setCell] using hs
  have x0 : w2.cell? ⟨w.heap.size + 1 + 1, 0, none⟩ = some (.slice na' rows.length nc') := (hb2.cell (p := ⟨w.heap.size + 1 + 1, 0, none⟩) hs1).trans (World.cell?_setCell_same _ _ _ r0)
  have x1 : w2.cell? ⟨w.heap.size + 1 + 1, 1, none⟩ = some (.slice none 0 0) := (hb2.cell (p := ⟨w.heap.size + 1 + 1, 1, none⟩) hs1).trans ((World.cell?_setCell_other _ _ _ _ (by intro h; simp at h)).trans r1)
  have y0 : w2.cell? ⟨w.heap.size + 1, 0, none⟩ = some (.slice none 0 0) := (hb2.cell (p := ⟨w.heap.size + 1, 0, none⟩) (Nat.lt_of_succ_lt hs1)).trans ((World.cell?_setCell_other _ _ _ _ (by intro h; simp at h)).trans q0)
  have y1 : w2.cell? ⟨w.heap.size + 1, 1, none⟩ = some (.slice none 0 0) := (hb2.cell (p := ⟨w.heap.size + 1, 1, none⟩) (Nat.lt_of_succ_lt hs1)).trans ((World.cell?_setCell_other _ _ _ _ (by intro h; simp at h)).trans q1)
  have f0 : w2.frozen? ⟨w.heap.size + 1 + 1, 1, none⟩ = false := (hb2.frozen (p := ⟨w.heap.size + 1 + 1, 1, none⟩) hs1).trans (by rw [World.frozen?_setCell]; exact fr1)
  have g0 : w2.frozen? ⟨w.heap.size + 1, 0, none⟩ = false := (hb2.frozen (p := ⟨w.heap.size + 1, 0, none⟩) (Nat.lt_of_succ_lt hs1)).trans (by rw [World.frozen?_setCell]; exact fq0)
  have g1 : w2.frozen? ⟨w.heap.size + 1, 1, none⟩ = false := (hb2.frozen (p := ⟨w.heap.size + 1, 1, none⟩) (Nat.lt_of_succ_lt hs1)).trans (by rw [World.frozen?_setCell]; exact fq1)
  have hs2 : w.heap.size + 1 + 1 < w2.heap.size := Nat.lt_of_lt_of_le hs1 hb2.size
  have HB2 := Lib.hid hb2
  have HA2 := Lib.hid hA'
  clear hb2 hA' hs1 p1 q0 q1 r0 r1 fq0 fq1 fr0 fr1
  go_wp2
  refine bodyPost_ret (v := .agg #[.slice na' rows.length nc', .slice aa' acc.length ac']) (by simp [results, Try.results16, go_sem, y0, y1]) rfl ⟨na', nc', aa', ac', rfl, ?_, ?_, ?_⟩
  · have h1 := HN'.out.set (a := ⟨w.heap.size + 1 + 1, 0, none⟩) (by show w.heap.size + 1 + 1 < _; omega) (.slice na' rows.length nc')
    have h2 := h1.keep HB2.out
    exact (((h2.set (by show w.heap.size + 1 + 1 < _; omega) _).set (by show w.heap.size + 1 < _; omega) _).set (by show w.heap.size + 1 < _; omega) _).low (Nat.zero_le _)
  · have h3 : w.heap.size + 1 + 1 + 1 ≤ (w1.setCell ⟨w.heap.size + 1 + 1, 0, none⟩ (.slice na' rows.length nc')).heap.size := by simp [World.setCell]; omega
    have h2 := HA2.out.low h3
    exact (((h2.set (by show w.heap.size + 1 + 1 < _; omega) _).set (by show w.heap.size + 1 < _; omega) _).set (by show w.heap.size + 1 < _; omega) _).low (Nat.zero_le _)
  · have h1 : Below w.heap.size w w2 := (BW.out.setCell (by show w.heap.size ≤ w.heap.size + 1 + 1; omega) _).trans (HB2.out.mono (by simp [World.setCell]; omega))
    exact ((h1.setCell (by show w.heap.size ≤ w.heap.size + 1 + 1; omega) _).setCell (by show w.heap.size ≤ w.heap.size + 1; omega) _).setCell (by show w.heap.size ≤ w.heap.size + 1; omega) _

/-- The reference's test of a counter by value. -/
theorem specCounter_any (na aa : Option Addr) (nc ac : Nat) (rows : List (List Int)) (acc : List Int) (w : World) (hN : RowsAt 0 w na rows) (hA : RowAt 0 w aa acc) (hl : Small rows acc) :
    Calls Try.prog 15 #[.agg #[.slice na rows.length nc, .slice aa acc.length ac]] w fun e w' => e = .returned (.bool (validB rows acc)) ∧ Below w.heap.size w w' := by
  obtain ⟨l0, l1, l2⟩ := hl
  have HN : Hid (RowsAt 0 w na rows) := hN
  have HA : Hid (RowAt 0 w aa acc) := hA
  have HL := Lib.hid l1
  clear hN hA l1
  go_enter Try.func15, Try.ntmps15
  go_wp2_with fail
  refine (l11Counter_any _ rows acc _ (by simp) ⟨na, nc, aa, ac, World.cell?_alloc_new _ _ _ 0, World.cell?_alloc_new _ _ _ 1, HN.out.keep ((Below.refl _ _).alloc (Nat.le_refl _) _), HA.out.keep ((Below.refl _ _).alloc (Nat.le_refl _) _)⟩ l0 HL.out l2).mono ?_
  rintro e w1 ⟨rfl, d, hw⟩
  have HB : Hid (Below w.heap.size w w1) := by rw [hw]; exact below_drewN ((Below.refl _ _).alloc (Nat.le_refl _) _) d
  clear hw
  go_wp2
  go_ret
  exact ⟨rfl, HB.out⟩

set_option maxHeartbeats 1000000 in
theorem eqC_any (na aa na' aa' : Option Addr) (nc ac nc' ac' : Nat) (rows : List (List Int)) (acc : List Int) (w : World) (hN : RowsAt 0 w na rows) (hA : RowAt 0 w aa acc) (hN' : RowsAt 0 w na' rows) (hA' : RowAt 0 w aa' acc) (hl : Small rows acc) :
    Calls Try.prog 18 #[.agg #[.slice na rows.length nc, .slice aa acc.length ac], .agg #[.slice na' rows.length nc', .slice aa' acc.length ac']] w fun e w' => e = .returned (.bool true) ∧ Below w.heap.size w w' := by
  obtain ⟨l0, l1, l2⟩ := hl
  have HN : Hid (RowsAt 0 w na rows) := hN
  have HA : Hid (RowAt 0 w aa acc) := hA
  have HN' : Hid (RowsAt 0 w na' rows) := hN'
  have HA' : Hid (RowAt 0 w aa' acc) := hA'
  have HL := Lib.hid l1
  clear hN hA hN' hA' l1
  go_enter Try.func18, Try.ntmps18
  go_wp2_with fail
  refine (eq2_any _ _ rows _ _ _ (HN.out.keep (((Below.refl _ _).alloc (Nat.le_refl _) _).alloc (by simp) _)) (HN'.out.keep (((Below.refl _ _).alloc (Nat.le_refl _) _).alloc (by simp) _)) l0 HL.out).mono ?_
  rintro e w1 ⟨rfl, d, hw⟩
  have HB : Hid (Below w.heap.size w w1) := by rw [hw]; exact below_drewN (((Below.refl _ _).alloc (Nat.le_refl _) _).alloc (by simp) _) d
  have c0 : w1.cell? ⟨w.heap.size, 1, none⟩ = some (.slice aa acc.length ac) := by rw [hw]; exact World.cell?_alloc2_first _ _ _ 1
  have c1 : w1.cell? ⟨w.heap.size + 1, 1, none⟩ = some (.slice aa' acc.length ac') := by rw [hw]; exact World.cell?_alloc2_new _ _ _ 1
  clear hw
  go_wp2_with fail
  refine (eq1_any _ _ acc _ _ _ (HA.out.keep HB.out) (HA'.out.keep HB.out) l2).mono ?_
  rintro e w2 ⟨rfl, d2, hw⟩
  have HB2 : Hid (Below w.heap.size w w2) := by rw [hw]; exact below_drewN HB.out d2
  clear hw
  go_wp2
  go_ret
  exact ⟨rfl, HB2.out⟩

end Go.Proofs.Ytgjajkcpdjmibaa
