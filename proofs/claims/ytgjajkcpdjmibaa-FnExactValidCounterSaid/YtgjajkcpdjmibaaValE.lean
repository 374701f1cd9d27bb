/-
  The reference's test of a counter by its contract: it returns whether the counter is valid as the plain description says. Conditions: lengths of at most 1048576.
-/
import Derived.Test.YtgjajkcpdjmibaaValD
namespace Go.Proofs.Ytgjajkcpdjmibaa
open Go.RowKit
set_option linter.unusedVariables false

/-- The first k entries of a row lie from -1 to hi. -/
def CellsOK (row : List Int) (hi : Int) (k : Nat) : Prop := ∀ x, x < k → -1 ≤ row.getD x 0 ∧ row.getD x 0 ≤ hi
instance (row : List Int) (hi : Int) (k : Nat) : Decidable (CellsOK row hi k) := by unfold CellsOK; infer_instance
/-- The first k rows are as long as the first one, their entries states. -/
def RowsOK (rows : List (List Int)) (k : Nat) : Prop := ∀ i, i < k → (rows.getD i []).length = (rows.getD 0 []).length ∧ CellsOK (rows.getD i []) ((rows.length : Int) - 1) (rows.getD i []).length
instance (rows : List (List Int)) (k : Nat) : Decidable (RowsOK rows k) := by unfold RowsOK; infer_instance
/-- A counter is valid. -/
def Valid (rows : List (List Int)) (acc : List Int) : Prop :=
  (1 ≤ (rows.length : Int) ∧ (rows.length : Int) ≤ 8) ∧ (1 ≤ ((rows.getD 0 []).length : Int) ∧ ((rows.getD 0 []).length : Int) ≤ 3) ∧ Rise acc ((rows.length : Int) - 1) acc.length ∧ RowsOK rows rows.length
instance (rows : List (List Int)) (acc : List Int) : Decidable (Valid rows acc) := by unfold Valid; infer_instance
def validB (rows : List (List Int)) (acc : List Int) : Bool := decide (Valid rows acc)
theorem validB_yes {rows : List (List Int)} {acc : List Int} (h : Valid rows acc) : validB rows acc = true := decide_eq_true h
theorem validB_no {rows : List (List Int)} {acc : List Int} (h : ¬ Valid rows acc) : validB rows acc = false := decide_eq_false h

theorem inB_out {n lo hi : Int} (h : inB n lo hi = false) : ¬ (lo ≤ n ∧ n ≤ hi) := fun h1 => by rw [inB_yes h1] at h; exact absurd h (by simp)
theorem riseB_out {acc : List Int} {hi : Int} (h : riseB acc hi = false) : ¬ Rise acc hi acc.length := fun h1 => by rw [riseB_yes h1] at h; exact absurd h (by simp)

/-- A counter in memory: two cells, a slice of rows and a slice of states. -/
def CounterAt (w : World) (b : Nat) (rows : List (List Int)) (acc : List Int) : Prop :=
  ∃ na nc aa ac, w.cell? ⟨b, 0, none⟩ = some (.slice na rows.length nc) ∧ w.cell? ⟨b, 1, none⟩ = some (.slice aa acc.length ac) ∧ RowsAt 0 w na rows ∧ RowAt 0 w aa acc

set_option maxHeartbeats 1000000 in
theorem l11Counter_any (b : Nat) (rows : List (List Int)) (acc : List Int) (w : World) (hb : b < w.heap.size) (hc : CounterAt w b rows acc) (hl : rows.length ≤ 1048576) (hl1 : ∀ t, t < rows.length → (rows.getD t []).length ≤ 1048576) (hl2 : acc.length ≤ 1048576) :
    Calls Try.prog 27 #[.pointer (some ⟨b, 0, none⟩)] w fun e w' => e = .returned (.bool (validB rows acc)) ∧ ∃ n, w' = w.drewN n := by
  obtain ⟨na, nc, aa, ac, c0, c1, hN, hA⟩ := hc
  have HN : Hid (RowsAt 0 w na rows) := hN
  have HA : Hid (RowAt 0 w aa acc) := hA
  have HL := Lib.hid hl1
  clear hN hA hl1
  cases hin : inB (rows.length : Int) 1 8
  · have HF : Hid (validB rows acc = false) := validB_no fun h => inB_out hin h.1
    go_enter Try.func27, Try.ntmps27
    go_wp2_with (first | (go_at_call 22; refine (l00In_any _ _ _ _).mono ?_; rintro e w' ⟨rfl, rfl⟩) | (go_at_call 34; refine (letters_any _ _).mono ?_; rintro e w' ⟨rfl, rfl⟩))
    go_ret
    exact ⟨ret_bool HF.out.symm, 0, rfl⟩
  obtain ⟨n1, n2⟩ := inB_iff.1 hin
  obtain ⟨rb, ro, rfl, -, hrb, hrc⟩ := HN.out (by omega)
  obtain ⟨ra0, rc0, hr0, hR0⟩ := hrc 0 (by omega)
  rw [Nat.add_zero] at hr0
  have HRC := Lib.hid hrc
  clear hrc hR0
  have hm0 := HL.out 0 (by omega)
  cases hin2 : inB ((rows.getD 0 []).length : Int) 1 3
  · have HF : Hid (validB rows acc = false) := validB_no fun h => inB_out hin2 h.2.1
    generalize hm : (rows.getD 0 []).length = m at *
    have Hm := Lib.hid hm
    clear hm
    go_enter Try.func27, Try.ntmps27
    go_wp2_with (first | (go_at_call 22; refine (l00In_any _ _ _ _).mono ?_; rintro e w' ⟨rfl, rfl⟩) | (go_at_call 34; refine (letters_any _ _).mono ?_; rintro e w' ⟨rfl, rfl⟩))
    go_ret
    exact ⟨ret_bool HF.out.symm, 0, rfl⟩
  cases hri : riseB acc ((rows.length : Int) - 1)
  · have HF : Hid (validB rows acc = false) := validB_no fun h => riseB_out hri h.2.2.1
    generalize hm : (rows.getD 0 []).length = m at *
    have Hm := Lib.hid hm
    clear hm
    go_enter Try.func27, Try.ntmps27
    go_wp2_with (first | (go_at_call 22; refine (l00In_any _ _ _ _).mono ?_; rintro e w' ⟨rfl, rfl⟩) | (go_at_call 34; refine (letters_any _ _).mono ?_; rintro e w' ⟨rfl, rfl⟩))
    refine (rises_any _ _ _ _ _ HA.out hl2).mono ?_
    rintro e w1 ⟨rfl, d, hw⟩
    have HW := Lib.hid hw
    clear hw
    go_wp2
    go_ret
    exact ⟨ret_bool HF.out.symm, d, HW.out⟩
  · generalize hm : (rows.getD 0 []).length = m at *
    have Hm := Lib.hid hm
    clear hm
    have HRI := Lib.hid (riseB_iff.1 hri)
    obtain ⟨m1, m2⟩ := inB_iff.1 hin2
    have HI2 : Hid (1 ≤ (m : Int) ∧ (m : Int) ≤ 3) := ⟨m1, m2⟩
    generalize hn : rows.length = n at *
    have Hn := Lib.hid hn
    clear hn
    go_enter Try.func27, Try.ntmps27
    go_wp2_with (first | (go_at_call 22; refine (l00In_any _ _ _ _).mono ?_; rintro e w' ⟨rfl, rfl⟩) | (go_at_call 34; refine (letters_any _ _).mono ?_; rintro e w' ⟨rfl, rfl⟩))
    refine (rises_any _ _ _ _ _ HA.out hl2).mono ?_
    rintro e w1 ⟨rfl, d1, hw1⟩
    have HW1 := Lib.hid hw1
    clear hw1
    have h0 : w1.cell? ⟨b, 0, none⟩ = some (.slice (some ⟨rb, ro, none⟩) n nc) := by rw [HW1.out]; exact c0
    go_wp2
    go_loopw [4] (fun i wr => ∃ k : Nat, k ≤ n ∧ i = .int .i64 k ∧ RowsOK rows k ∧ ∃ d, wr = w.drewN d) (fun i _ => n - (intOf i).toNat)
    case atStart => exact ⟨0, by omega, rfl, fun i h => by omega, d1, HW1.out⟩
    case round =>
      obtain ⟨k, hk, rfl, hok, d, hw⟩ := hrel
      have HOK : Hid (RowsOK rows k) := hok
      have HW := Lib.hid hw
      clear hok hw h0
      have e0 : wr.cell? ⟨b, 0, none⟩ = some (.slice (some ⟨rb, ro, none⟩) n nc) := by rw [HW.out]; exact c0
      have e1 : wr.cell? ⟨rb, ro, none⟩ = some (.slice ra0 m rc0) := by rw [HW.out]; exact hr0
      by_cases hlt : k < n
      · obtain ⟨ra, rc, hk1, hk2⟩ := HRC.out k hlt
        have e2 : wr.cell? ⟨rb, ro + k, none⟩ = some (.slice ra (rows.getD k []).length rc) := by rw [HW.out]; exact hk1
        have HK2 : Hid (RowAt 0 wr ra (rows.getD k [])) := by rw [HW.out]; exact hk2.keep (below_drewN (Below.refl _ _) d)
        have hkl := HL.out k hlt
        clear hk1 hk2
        generalize hrow : rows.getD k [] = row at *
        have Hrow := Lib.hid hrow
        clear hrow
        by_cases hlen : row.length = m
        · have HLen := Lib.hid hlen
          rw [hlen] at e2
          clear hlen
          go_wp2
          go_quiet (fail)
          go_wp2
          go_loop [5] (fun x => ∃ j : Nat, j ≤ m ∧ x = .int .i64 j ∧ CellsOK row ((n : Int) - 1) j) (fun x => m - (intOf x).toNat)
          case atStart => exact ⟨0, by omega, rfl, fun i h => by omega⟩
          case round =>
            obtain ⟨j, hj, rfl, hcok⟩ := hrel
            have HCOK : Hid (CellsOK row ((n : Int) - 1) j) := hcok
            clear hcok
            by_cases hjm : j < m
            · obtain ⟨b2, o2, rfl, -, hb2, hc2⟩ := HK2.out (by have := HLen.out; omega)
              have e3 := hc2 j (by have := HLen.out; omega)
              clear hc2
              cases hz : inB (row.getD j 0) (-1) ((n : Int) - 1)
              · have HF : Hid (validB rows acc = false) := validB_no fun h => by
                  have h1 := (h.2.2.2 k (by have := Hn.out; omega)).2
                  rw [Hrow.out, Hn.out] at h1
                  exact inB_out hz (h1 j (by have := HLen.out; omega))
                generalize row.getD j 0 = z at *
                go_wp2_with (go_at_call 22; refine (l00In_any _ _ _ _).mono ?_; rintro e w' ⟨rfl, rfl⟩)
                go_ret
                exact ⟨ret_bool HF.out.symm, _, by rw [HW.out, World.drewN_drewN]⟩
              · have HN2 : Hid (CellsOK row ((n : Int) - 1) (j + 1)) := fun x hx => by
                  by_cases e : x = j
                  · subst e; exact inB_iff.1 hz
                  · exact HCOK.out x (by omega)
                generalize row.getD j 0 = z at *
                go_wp2_with (go_at_call 22; refine (l00In_any _ _ _ _).mono ?_; rintro e w' ⟨rfl, rfl⟩)
                go_round
                case rel => exact ⟨j + 1, by omega, by go_num, HN2.out⟩
                case measure => simp [intOf]; omega
            · have HN2 : Hid (RowsOK rows (k + 1)) := fun i hi => by
                by_cases e : i = k
                · subst e
                  rw [Hrow.out, Hn.out, HLen.out]
                  exact ⟨Hm.out.symm, fun x hx => HCOK.out x (by omega)⟩
                · exact HOK.out i (by omega)
              go_wp2
              go_roundw
              case rel => exact ⟨k + 1, by omega, by go_num, HN2.out, _, by rw [HW.out, World.drewN_drewN]⟩
              case measure => simp [intOf]; omega
        · have HF : Hid (validB rows acc = false) := validB_no fun h => by
            have h1 := (h.2.2.2 k (by have := Hn.out; omega)).1
            rw [Hrow.out, Hm.out] at h1
            exact hlen h1
          have hne : ((row.length : Int) != (m : Int)) = true := by
            have : (row.length : Int) ≠ (m : Int) := by omega
            exact bne_iff_ne.2 this
          clear hlen
          generalize row.length = rl at *
          go_wp2
          go_quiet (fail)
          go_wp2
          go_ret
          exact ⟨ret_bool HF.out.symm, _, by rw [HW.out, World.drewN_drewN]⟩
      · have HT : Hid (validB rows acc = true) := validB_yes ⟨by rw [Hn.out]; exact ⟨n1, n2⟩, by rw [Hm.out]; exact HI2.out, by rw [Hn.out]; exact HRI.out, by rw [Hn.out]; have h := HOK.out; rw [show k = n by omega] at h; exact h⟩
        go_wp2
        go_ret
        exact ⟨ret_bool HT.out.symm, _, HW.out⟩

end Go.Proofs.Ytgjajkcpdjmibaa
