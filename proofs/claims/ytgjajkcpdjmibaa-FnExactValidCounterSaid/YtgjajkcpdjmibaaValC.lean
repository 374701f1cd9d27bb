/-
  The law's copy of a slice of slices of integers, and its comparison, each by its contract. Conditions: lengths of at most 1048576.
-/
import Derived.Test.YtgjajkcpdjmibaaValB
namespace Go.Proofs.Ytgjajkcpdjmibaa
open Go.RowKit
set_option linter.unusedVariables false

theorem RowAt.set {lo : Nat} {w : World} {ao : Option Addr} {zs : List Int} (h : RowAt lo w ao zs) {a : Addr} (ha : a.block < lo) (v : Value) : RowAt lo (w.setCell a v) ao zs := by
  intro h0
  obtain ⟨b, o, e, l, hlt, hc⟩ := h h0
  refine ⟨b, o, e, l, by simpa [World.setCell] using hlt, fun t ht => ?_⟩
  rw [← hc t ht]
  exact World.cell?_of_block (w := w) (a := ⟨b, o + t, none⟩) (Below.heap_setCell w a v b (by omega))

/-- What the first k cells of the copy hold. -/
def Done (N : Nat) (w : World) (rows : List (List Int)) (f : Nat → Value) (k : Nat) : Prop :=
  ∀ j, j < k → ∃ ra rc, f j = .slice ra (rows.getD j []).length rc ∧ RowAt (N + 1) w ra (rows.getD j [])

theorem Done.step {N k : Nat} {w w1 : World} {rows : List (List Int)} {f : Nat → Value} {ra : Option Addr} {rc : Nat} (h : Done N w rows f k) (hb : Below w.heap.size w w1) (hN : N + 1 ≤ w.heap.size) (hr : RowAt w.heap.size w1 ra (rows.getD k [])) :
    Done N (w1.setCell ⟨N, k, none⟩ (.slice ra (rows.getD k []).length rc)) rows (fun j => if j = k then .slice ra (rows.getD k []).length rc else f j) (k + 1) := by
  intro j hj
  by_cases e : j = k
  · subst e
    exact ⟨ra, rc, if_pos rfl, (hr.low hN).set (by show N < N + 1; omega) _⟩
  · obtain ⟨ra', rc', e1, h1⟩ := h j (by omega)
    exact ⟨ra', rc', (if_neg e).trans e1, (h1.keep hb).set (by show N < N + 1; omega) _⟩

set_option maxHeartbeats 400000 in
theorem to2_any (ao : Option Addr) (rows : List (List Int)) (cap : Nat) (w : World) (hr : RowsAt 0 w ao rows) (hl : rows.length ≤ 1048576) (hl1 : ∀ t, t < rows.length → (rows.getD t []).length ≤ 1048576) :
    Calls Try.prog 28 #[.slice ao rows.length cap] w (CopiedRows w rows) := by
  generalize hn : rows.length = n at *
  have Hn := Lib.hid hn
  have HR : Hid (RowsAt 0 w ao rows) := hr
  have HL := Lib.hid hl1
  clear hr hn hl1
  have hmk := run_make_row' (P := Try.prog) 32 33 (.slice none 0 0) 24 Try.underlying32 Try.info33 rfl .i64 .i64 n (by omega) (by omega)
  go_enter Try.func28, Try.ntmps28
  go_wp2
  go_loopw [4] (fun i wr => ∃ k : Nat, k ≤ n ∧ i = .int .i64 k ∧ (∃ f, wr.rowIs w.heap.size 33 n f ∧ Done w.heap.size wr rows f k) ∧ Below w.heap.size w wr) (fun i _ => n - (intOf i).toNat)
  case atStart =>
    exact ⟨0, by omega, rfl, ⟨_, World.rowIs_made w (.slice none 0 0) n 33, fun j hj => by omega⟩, (Below.refl _ _).alloc (Nat.le_refl _) _⟩
  case round =>
    obtain ⟨k, hk, rfl, ⟨f, hrow, hd⟩, hb⟩ := hrel
    have HRow : Hid (wr.rowIs w.heap.size 33 n f) := hrow
    have HB : Hid (Below w.heap.size w wr) := hb
    have HD : Hid (Done w.heap.size wr rows f k) := hd
    by_cases hlt : k < n
    · obtain ⟨b, o, rfl, -, hbl, hc⟩ := HR.out (by have := Hn.out; omega)
      obtain ⟨ra, rc, hc0, hr0⟩ := hc k (by have := Hn.out; omega)
      have hc1 : wr.cell? ⟨b, o + k, none⟩ = some (.slice ra (rows.getD k []).length rc) := (hb.cell (p := ⟨b, o + k, none⟩) hbl).trans hc0
      have hr1 : RowAt 0 wr ra (rows.getD k []) := by
        intro h0
        obtain ⟨b1, o1, e1, l1, hlt1, hcc⟩ := hr0 h0
        exact ⟨b1, o1, e1, l1, Nat.lt_of_lt_of_le hlt1 hb.size, fun t ht => (hb.cell (p := ⟨b1, o1 + t, none⟩) hlt1).trans (hcc t ht)⟩
      have HR1 : Hid (RowAt 0 wr ra (rows.getD k [])) := hr1
      have hcl := HL.out k hlt
      have hc2 := hrow.cell hlt
      have hf := hrow.frozen k
      have hlt2 := hrow.lt
      clear hc hc0 hr0 hr1 hrow hb hd
      generalize hz : rows.getD k [] = zs at *
      have Hz := Lib.hid hz
      clear hz
      go_wp2_with fail
      refine (to1_any _ _ _ _ HR1.out hcl).mono ?_
      rintro e w1 ⟨ao', cap', rfl, hr', hb'⟩
      have hc3 : w1.cell? ⟨w.heap.size, k, none⟩ = some (f k) := (hb'.cell (p := ⟨w.heap.size, k, none⟩) hlt2).trans hc2
      have hf3 : w1.frozen? ⟨w.heap.size, k, none⟩ = false := (hb'.frozen (p := ⟨w.heap.size, k, none⟩) hlt2).trans hf
      have hlt3 : w.heap.size < w1.heap.size := Nat.lt_of_lt_of_le hlt2 hb'.size
      have HB' : Hid (Below wr.heap.size wr w1) := hb'
      have HR' : Hid (RowAt wr.heap.size w1 ao' zs) := hr'
      clear hc2 hf hb' hr'
      go_wp2
      go_roundw
      case rel =>
        refine ⟨k + 1, by omega, by go_num, ⟨_, (HRow.out.of_block (HB'.out.block _ hlt2)).set k _, ?_⟩, (HB.out.trans (HB'.out.mono (Nat.le_of_lt hlt2))).setCell (Nat.le_refl _) _⟩
        have h := HD.out.step (rc := cap') HB'.out hlt2 (by rw [Hz.out]; exact HR'.out)
        rw [Hz.out] at h
        exact h
      case measure => simp [intOf]; omega
    · clear hrow hb hd
      go_wp2
      go_ret
      have e := Hn.out
      refine ⟨some ⟨w.heap.size, 0, none⟩, n, by rw [e]; rfl, fun h0 => ⟨w.heap.size, 0, rfl, Nat.le_refl _, HRow.out.lt, fun t ht => ?_⟩, HB.out⟩
      obtain ⟨ra, rc, e1, h1⟩ := HD.out t (by omega)
      exact ⟨ra, rc, by rw [Nat.zero_add, HRow.out.cell (by omega), e1], h1.low (by omega)⟩

set_option maxHeartbeats 400000 in
theorem eq2_any (ao bo : Option Addr) (rows : List (List Int)) (ca cb : Nat) (w : World) (ha : RowsAt 0 w ao rows) (hb : RowsAt 0 w bo rows) (hl : rows.length ≤ 1048576) (hl1 : ∀ t, t < rows.length → (rows.getD t []).length ≤ 1048576) :
    Calls Try.prog 32 #[.slice ao rows.length ca, .slice bo rows.length cb] w fun e w' => e = .returned (.bool true) ∧ ∃ n, w' = w.drewN n := by
  generalize hn : rows.length = n at *
  have Hn := Lib.hid hn
  have HA : Hid (RowsAt 0 w ao rows) := ha
  have HB : Hid (RowsAt 0 w bo rows) := hb
  have HL := Lib.hid hl1
  clear ha hb hn hl1
  go_enter Try.func32, Try.ntmps32
  go_wp2
  go_loopw [5] (fun i wr => ∃ k : Nat, k ≤ n ∧ i = .int .i64 k ∧ ∃ d, wr = w.drewN d) (fun i _ => n - (intOf i).toNat)
  case atStart => exact ⟨0, by omega, rfl, 0, rfl⟩
  case round =>
    obtain ⟨k, hk, rfl, d, hw⟩ := hrel
    by_cases hlt : k < n
    · obtain ⟨b, o, rfl, -, hbl, hc⟩ := HA.out (by have := Hn.out; omega)
      obtain ⟨b', o', rfl, -, hbl', hc'⟩ := HB.out (by have := Hn.out; omega)
      obtain ⟨ra, rc, hc1, hr1⟩ := hc k (by have := Hn.out; omega)
      obtain ⟨ra', rc', hc2, hr2⟩ := hc' k (by have := Hn.out; omega)
      have hd : Below w.heap.size w wr := by rw [hw]; exact below_drewN (Below.refl _ _) d
      have hd1 : wr.cell? ⟨b, o + k, none⟩ = some (.slice ra (rows.getD k []).length rc) := (hd.cell (p := ⟨b, o + k, none⟩) hbl).trans hc1
      have hd2 : wr.cell? ⟨b', o' + k, none⟩ = some (.slice ra' (rows.getD k []).length rc') := (hd.cell (p := ⟨b', o' + k, none⟩) hbl').trans hc2
      have H1 : Hid (RowAt 0 wr ra (rows.getD k [])) := hr1.keep hd
      have H2 : Hid (RowAt 0 wr ra' (rows.getD k [])) := hr2.keep hd
      have hcl := HL.out k hlt
      have HW := Lib.hid hw
      clear hc hc' hc1 hc2 hr1 hr2 hd hw
      generalize rows.getD k [] = zs at *
      go_wp2
      go_quiet ((go_at_call 33; exact Calls.quiet_of (eq1_any _ _ _ _ _ _ (H1.out.keep (below_drewN (Below.refl _ _) _)) (H2.out.keep (below_drewN (Below.refl _ _) _)) hcl)))
      go_wp2
      go_roundw
      case rel => exact ⟨k + 1, by omega, by go_num, _, by rw [HW.out, World.drewN_drewN]⟩
      case measure => simp [intOf]; omega
    · go_wp2
      go_ret
      exact ⟨rfl, _, rfl⟩

end Go.Proofs.Ytgjajkcpdjmibaa
