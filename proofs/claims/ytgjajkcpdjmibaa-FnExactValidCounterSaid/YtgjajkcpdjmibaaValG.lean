/-
  The program's test of a counter by its contract: it returns whether the counter is valid as the plain description says; what was in memory stays as it was. Conditions: lengths of at most 1048576.
-/
import Derived.Test.YtgjajkcpdjmibaaValF
namespace Go.Proofs.Ytgjajkcpdjmibaa
open Go.RowKit
set_option linter.unusedVariables false

/-- The two boxes that the function makes for itself, the struct and the number of states; what was there before is as it was. -/
structure OwnBoxes (w : World) (v0 v1 : Value) (n : Nat) (wr : World) : Prop where
  low : Below w.heap.size w wr
  c0 : wr.cell? ⟨w.heap.size, 0, none⟩ = some v0
  c1 : wr.cell? ⟨w.heap.size, 1, none⟩ = some v1
  c2 : wr.cell? ⟨w.heap.size + 1, 0, none⟩ = some (.int .i64 n)

theorem OwnBoxes.start (w : World) (v0 v1 : Value) (n : Nat) : OwnBoxes w v0 v1 n ((w.alloc (.cells #[v0, v1] 38)).alloc (.cells #[.int .i64 n] 2)) where
  low := ((Below.refl _ _).alloc (Nat.le_refl _) _).alloc (by simp) _
  c0 := World.cell?_alloc2_first _ _ _ 0
  c1 := World.cell?_alloc2_first _ _ _ 1
  c2 := World.cell?_alloc2_new _ _ _ 0

set_option maxHeartbeats 1000000 in
theorem implCounter_any (na aa : Option Addr) (nc ac : Nat) (rows : List (List Int)) (acc : List Int) (w : World) (hN : RowsAt 0 w na rows) (hA : RowAt 0 w aa acc) (hl : rows.length ≤ 1048576) (hl1 : ∀ t, t < rows.length → (rows.getD t []).length ≤ 1048576) (hl2 : acc.length ≤ 1048576) :
    Calls Try.prog 17 #[.agg #[.slice na rows.length nc, .slice aa acc.length ac]] w fun e w' => e = .returned (.bool (validB rows acc)) ∧ Below w.heap.size w w' := by
  have HN : Hid (RowsAt 0 w na rows) := hN
  have HA : Hid (RowAt 0 w aa acc) := hA
  have HL := Lib.hid hl1
  clear hN hA hl1
  cases hin : inB (rows.length : Int) 1 8
  · have HF : Hid (validB rows acc = false) := validB_no fun h => inB_out hin h.1
    go_enter Try.func17, Try.ntmps17
    go_wp2_with (go_at_call 20; refine (within_any _ _ _ _).mono ?_; rintro e w' ⟨rfl, rfl⟩)
    go_ret
    exact ⟨ret_bool HF.out.symm, ((Below.refl _ _).alloc (Nat.le_refl _) _).alloc (by simp) _⟩
  obtain ⟨n1, n2⟩ := inB_iff.1 hin
  obtain ⟨rb, ro, rfl, -, hrb, hrc⟩ := HN.out (by omega)
  obtain ⟨ra0, rc0, hr0, hR0⟩ := hrc 0 (by omega)
  rw [Nat.add_zero] at hr0
  have HRC := Lib.hid hrc
  clear hrc hR0
  have hm0 := HL.out 0 (by omega)
  generalize hm : (rows.getD 0 []).length = m at *
  have Hm := Lib.hid hm
  clear hm
  generalize hn : rows.length = n at *
  have Hn := Lib.hid hn
  clear hn
  generalize hal : acc.length = al at *
  have Hal := Lib.hid hal
  clear hal
  go_enter Try.func17, Try.ntmps17
  go_wp2_with (go_at_call 20; refine (within_any _ _ _ _).mono ?_; rintro e w' ⟨rfl, rfl⟩)
  go_loopw [17] (fun i wr => ∃ k : Nat, k ≤ n ∧ i = .int .i64 k ∧ (RowsOK rows k ∧ (0 < k → 1 ≤ (m : Int) ∧ (m : Int) ≤ 3)) ∧ OwnBoxes w (.slice (some ⟨rb, ro, none⟩) n nc) (.slice aa al ac) n wr) (fun i _ => n - (intOf i).toNat)
  case atStart => exact ⟨0, by omega, rfl, ⟨fun i h => by omega, fun h => by omega⟩, OwnBoxes.start _ _ _ _⟩
  case round =>
    obtain ⟨k, hk, rfl, hok, hown⟩ := hrel
    have HOK := Lib.hid hok
    have HOwn := Lib.hid hown
    obtain ⟨hb, c0, c1, c2⟩ := hown
    have e1 : wr.cell? ⟨rb, ro, none⟩ = some (.slice ra0 m rc0) := (hb.cell (p := ⟨rb, ro, none⟩) hrb).trans hr0
    have HB := Lib.hid hb
    clear hok hb
    by_cases hlt : k < n
    · obtain ⟨ra, rc, hk1, hk2⟩ := HRC.out k hlt
      have e2 : wr.cell? ⟨rb, ro + k, none⟩ = some (.slice ra (rows.getD k []).length rc) := (HB.out.cell (p := ⟨rb, ro + k, none⟩) hrb).trans hk1
      have HK2 : Hid (RowAt 0 wr ra (rows.getD k [])) := hk2.keep HB.out
      have hkl := HL.out k hlt
      clear hk1 hk2
      generalize hrow : rows.getD k [] = row at *
      have Hrow := Lib.hid hrow
      clear hrow
      by_cases hlen : row.length = m
      · have HLen := Lib.hid hlen
        rw [hlen] at e2
        clear hlen
        cases hin2 : inB (m : Int) 1 3
        · have HF : Hid (validB rows acc = false) := validB_no fun h => inB_out hin2 (by have h1 := h.2.1; rw [Hm.out] at h1; exact h1)
          go_wp2_with (first | (go_at_call 20; refine (within_any _ _ _ _).mono ?_; rintro e w' ⟨rfl, rfl⟩))
          go_ret
          exact ⟨ret_bool HF.out.symm, HB.out⟩
        · have HI2 := Lib.hid (inB_iff.1 hin2)
          have hcon := contains_any ra row rc (w.heap.size + 1) n wr HK2.out hkl c2 (by omega) (by omega)
          rw [HLen.out] at hcon
          have HCon := Lib.hid hcon
          clear hcon
          by_cases hcell : CellsOK row ((n : Int) - 1) row.length
          · have hbad := badB_no hcell
            have HN2 : Hid (RowsOK rows (k + 1)) := fun i hi => by
              by_cases e : i = k
              · subst e
                rw [Hrow.out, Hn.out, Hm.out]
                exact ⟨HLen.out, hcell⟩
              · exact HOK.out.1 i (by omega)
            clear hcell
            go_wp2_with (first | (go_at_call 20; refine (within_any _ _ _ _).mono ?_; rintro e w' ⟨rfl, rfl⟩) | (go_at_call 30; refine HCon.out.mono ?_; rintro e w' ⟨rfl, rfl⟩))
            go_roundw
            case rel => exact ⟨k + 1, by omega, by go_num, ⟨HN2.out, fun _ => HI2.out⟩, HOwn.out⟩
            case measure => simp [intOf]; omega
          · have hbad := badB_yes hcell
            have HF : Hid (validB rows acc = false) := validB_no fun h => hcell (by
              have h1 := (h.2.2.2 k (by have := Hn.out; omega)).2
              rw [Hrow.out, Hn.out] at h1
              exact h1)
            clear hcell
            go_wp2_with (first | (go_at_call 20; refine (within_any _ _ _ _).mono ?_; rintro e w' ⟨rfl, rfl⟩) | (go_at_call 30; refine HCon.out.mono ?_; rintro e w' ⟨rfl, rfl⟩))
            go_ret
            exact ⟨ret_bool HF.out.symm, HB.out⟩
      · have HF : Hid (validB rows acc = false) := validB_no fun h => by
          have h1 := (h.2.2.2 k (by have := Hn.out; omega)).1
          rw [Hrow.out, Hm.out] at h1
          exact hlen h1
        have hne : ((row.length : Int) != (m : Int)) = true := by
          have : (row.length : Int) ≠ (m : Int) := by omega
          exact bne_iff_ne.2 this
        clear hlen
        generalize row.length = rl at *
        go_wp2
        go_ret
        exact ⟨ret_bool HF.out.symm, HB.out⟩
    · have HOK2 : Hid (RowsOK rows n ∧ 1 ≤ (m : Int) ∧ (m : Int) ≤ 3) := by
        have h := HOK.out
        rw [show k = n by omega] at h
        exact ⟨h.1, h.2 (by omega)⟩
      clear e1
      go_wp2
      go_loop [44] (fun i => ∃ j : Nat, j ≤ al ∧ i = .int .i64 j ∧ Rise acc ((n : Int) - 1) j) (fun i => al - (intOf i).toNat)
      case atStart => exact ⟨0, by omega, rfl, Rise.zero _ _⟩
      case round =>
        obtain ⟨j, hj, rfl, hrs⟩ := hrel
        have HS : Hid (Rise acc ((n : Int) - 1) j) := hrs
        clear hrs
        by_cases hjl : j < al
        · obtain ⟨b, o, rfl, -, hbl, hcc⟩ := HA.out (by have := Hal.out; omega)
          have h1 : wr.cell? ⟨b, o + j, none⟩ = some (.int .i64 (acc.getD j 0)) := (HB.out.cell (p := ⟨b, o + j, none⟩) hbl).trans (hcc j (by have := Hal.out; omega))
          cases hz : inB (acc.getD j 0) 0 ((n : Int) - 1)
          · have HF : Hid (validB rows acc = false) := validB_no fun h => by
              have h2 := (h.2.2.1 j (by have := Hal.out; omega)).1
              rw [Hn.out] at h2
              exact inB_out hz h2
            clear hcc
            generalize acc.getD j 0 = z at *
            go_wp2_with (first | (go_at_call 20; refine (within_any _ _ _ _).mono ?_; rintro e w' ⟨rfl, rfl⟩))
            go_ret
            exact ⟨ret_bool HF.out.symm, HB.out⟩
          · have HI := Lib.hid (inB_iff.1 hz)
            by_cases hj0 : j = 0
            · have HN2 : Hid (Rise acc ((n : Int) - 1) (j + 1)) := HS.out.succ HI.out (fun h => by omega)
              have hd : decide (0 < j) = false := by simp [hj0]
              clear hj0 hcc
              generalize acc.getD j 0 = z at *
              go_wp2_with (first | (go_at_call 20; refine (within_any _ _ _ _).mono ?_; rintro e w' ⟨rfl, rfl⟩))
              go_round
              case rel => exact ⟨j + 1, by omega, by go_num, HN2.out⟩
              case measure => simp [intOf]; omega
            · obtain ⟨i, rfl⟩ : ∃ i, j = i + 1 := ⟨j - 1, by omega⟩
              have h2 : wr.cell? ⟨b, o + i, none⟩ = some (.int .i64 (acc.getD i 0)) := (HB.out.cell (p := ⟨b, o + i, none⟩) hbl).trans (hcc i (by have := Hal.out; omega))
              have hd : (0 : Int) < (i : Int) + 1 := by omega
              by_cases hge : acc.getD (i + 1) 0 ≤ acc.getD i 0
              · have HF : Hid (validB rows acc = false) := validB_no fun h => by
                  have h3 := (h.2.2.1 (i + 1) (by have := Hal.out; omega)).2 (by omega)
                  rw [Nat.add_sub_cancel] at h3
                  omega
                clear hcc hj0
                generalize acc.getD (i + 1) 0 = z at *
                generalize acc.getD i 0 = y at *
                go_wp2_with (first | (go_at_call 20; refine (within_any _ _ _ _).mono ?_; rintro e w' ⟨rfl, rfl⟩))
                go_ret
                exact ⟨ret_bool HF.out.symm, HB.out⟩
              · have HN2 : Hid (Rise acc ((n : Int) - 1) (i + 1 + 1)) := HS.out.succ HI.out (fun h => by rw [Nat.add_sub_cancel]; omega)
                clear hcc hj0
                generalize acc.getD (i + 1) 0 = z at *
                generalize acc.getD i 0 = y at *
                have hge' : decide (z ≤ y) = false := by simpa using hge
                go_wp2_with (first | (go_at_call 20; refine (within_any _ _ _ _).mono ?_; rintro e w' ⟨rfl, rfl⟩))
                go_round
                case rel => exact ⟨i + 1 + 1, by omega, by go_num, HN2.out⟩
                case measure => simp [intOf]; omega
        · have HT : Hid (validB rows acc = true) := validB_yes ⟨by rw [Hn.out]; exact ⟨n1, n2⟩, by rw [Hm.out]; exact HOK2.out.2, by rw [Hn.out, Hal.out]; have h := HS.out; rw [show j = al by omega] at h; exact h, by rw [Hn.out]; exact HOK2.out.1⟩
          go_wp2
          go_ret
          exact ⟨ret_bool HT.out.symm, HB.out⟩

end Go.Proofs.Ytgjajkcpdjmibaa
