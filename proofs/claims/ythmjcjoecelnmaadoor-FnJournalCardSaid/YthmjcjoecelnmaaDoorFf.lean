/-
  l01ZGcd by its contract at integers of at most one digit of which one is not 0: some divisor that is not 0.
-/
import Derived.Test.YthmjcjoecelnmaaDoorFd
namespace Go.Proofs.YthmjcjoecelnmaaDoor
open Go.RowKit
set_option linter.unusedVariables false

/-- An integer whose digits lie in none of the blocks from lo to hi. -/
def ZOut (lo hi : Nat) (n : Nat) (w : World) (v : Value) : Prop :=
  (∃ l, hi ≤ l ∧ ZVal l false n w v) ∨ (∃ w0, ZVal 0 false n w0 v ∧ w0.heap.size ≤ lo ∧ Below w0.heap.size w0 w)

theorem ZOut.zval {lo hi n : Nat} {w : World} {v : Value} (h : ZOut lo hi n w v) : ZVal 0 false n w v := by
  rcases h with ⟨l, _, h⟩ | ⟨w0, h, _, hb⟩
  · exact h.low (Nat.zero_le _)
  · exact h.keep hb
theorem ZOut.keep {lo hi n : Nat} {w w' : World} {v : Value} (h : ZOut lo hi n w v) (hb : Below w.heap.size w w') : ZOut lo hi n w' v := by
  rcases h with ⟨l, hl, h⟩ | ⟨w0, h, hl, hb0⟩
  · exact .inl ⟨l, hl, h.keep hb⟩
  · exact .inr ⟨w0, h, hl, hb0.trans (hb.mono hb0.size)⟩
theorem ZOut.set {lo hi n : Nat} {w : World} {v : Value} (h : ZOut lo hi n w v) {a : Addr} (h1 : lo ≤ a.block) (h2 : a.block < hi) (u : Value) : ZOut lo hi n (w.setCell a u) v := by
  rcases h with ⟨l, hl, hd⟩ | ⟨w0, hz, hl, hb0⟩
  · refine .inl ⟨l, hl, ?_⟩
    obtain ⟨ao, cap, rfl, hd⟩ := hd
    exact ⟨ao, cap, rfl, hd.set (by omega) u⟩
  · exact .inr ⟨w0, hz, hl, hb0.setCell (by omega) u⟩

/-- A box that holds such an integer. -/
def ZBox (lo hi B n : Nat) (w : World) : Prop :=
  ∃ ao cap, w.cell? ⟨B, 0, none⟩ = some (.bool false) ∧ w.cell? ⟨B, 1, none⟩ = some (.slice ao (limbs n).length cap) ∧ ZOut lo hi n w (.agg #[.bool false, .slice ao (limbs n).length cap])

/-- A Cut of digits without a zero at the end. -/
theorem cut_z (c : Bool) (n : Nat) (ao : Option Addr) (cap : Nat) (w : World) (hd : DAt 0 w ao cap (limbs n)) :
    Calls Tryd.prog 55 #[.bool c, .slice ao (limbs n).length cap] w fun e w' => e = .returned (.agg #[.bool (c && decide (0 < (limbs n).length)), .slice ao (limbs n).length cap]) ∧ Below w.heap.size w w' := by
  refine (cut_any c ao (limbs n) cap w hd.row hd.nil hd.len hd.cap).mono ?_
  rintro e w' ⟨m, hm, rfl, hz, hlast, hb⟩
  have hmm : m = (limbs n).length := by
    refine Nat.le_antisymm hm (Nat.not_lt.1 fun hlt => ?_)
    exact limbs_last n (by omega) (hz _ (by omega) (by omega))
  subst hmm
  exact ⟨rfl, hb⟩

/-- Two cells of a block stored. -/
theorem put2 {w : World} {B : Nat} {a0 a1 : Value} (u0 u1 : Value) (h0 : w.cell? ⟨B, 0, none⟩ = some a0) (h1 : w.cell? ⟨B, 1, none⟩ = some a1) :
    ((w.setCell ⟨B, 0, none⟩ u0).setCell ⟨B, 1, none⟩ u1).cell? ⟨B, 0, none⟩ = some u0 ∧ ((w.setCell ⟨B, 0, none⟩ u0).setCell ⟨B, 1, none⟩ u1).cell? ⟨B, 1, none⟩ = some u1 ∧ (∀ b o, b ≠ B → ((w.setCell ⟨B, 0, none⟩ u0).setCell ⟨B, 1, none⟩ u1).cell? ⟨b, o, none⟩ = w.cell? ⟨b, o, none⟩) ∧ ((w.setCell ⟨B, 0, none⟩ u0).setCell ⟨B, 1, none⟩ u1).heap.size = w.heap.size := by
  refine ⟨by simp [go_sem, h0], by simp [go_sem, h1], fun b o hb => ?_, by simp [World.setCell]⟩
  refine World.cell?_of_block ?_
  rw [Below.heap_setCell _ _ _ _ hb, Below.heap_setCell _ _ _ _ hb]

/-- The three blocks of the call's own, as far as they may be written; the result's as it was laid. -/
structure GF (s : Nat) (w : World) : Prop where
  z : ∀ B i, s ≤ B → B < s + 3 → w.frozen? ⟨B, i, none⟩ = false
  r0 : w.cell? ⟨s + 1 + 1, 0, none⟩ = some (.bool false)
  r1 : w.cell? ⟨s + 1 + 1, 1, none⟩ = some (.slice none 0 0)
  lt : s + 1 + 1 < w.heap.size
theorem GF.keep {s : Nat} {w w' : World} (h : GF s w) (hb : Below w.heap.size w w') : GF s w' := by
  obtain ⟨z, r0, r1, lt⟩ := h
  exact ⟨fun B i h1 h2 => (hb.frozen (p := ⟨B, i, none⟩) (show B < w.heap.size by omega)).trans (z B i h1 h2), (hb.cell (p := ⟨s + 1 + 1, 0, none⟩) lt).trans r0, (hb.cell (p := ⟨s + 1 + 1, 1, none⟩) lt).trans r1, Nat.lt_of_lt_of_le lt hb.size⟩
theorem GF.set {s : Nat} {w : World} (h : GF s w) {a : Addr} (ha : a.block ≠ s + 1 + 1) (u : Value) : GF s (w.setCell a u) := by
  obtain ⟨z, r0, r1, lt⟩ := h
  refine ⟨fun B i h1 h2 => ?_, ?_, ?_, by simpa [World.setCell] using lt⟩
  · rw [World.frozen?_setCell]; exact z B i h1 h2
  · rw [← r0]; exact World.cell?_of_block (Below.heap_setCell _ _ _ _ (Ne.symm ha))
  · rw [← r1]; exact World.cell?_of_block (Below.heap_setCell _ _ _ _ (Ne.symm ha))

/-- The division's contract, as it is used. -/
def DivC : Prop := ∀ (na nb : Bool) (x y : Nat) (va vb : Value) (w : World), ZVal 0 na x w va → ZVal 0 nb y w vb → x < 10000 → y < 10000 → 0 < y →
    Calls Tryd.prog 84 #[va, vb] w fun e w' => ∃ q r, e = .returned (.tuple #[q, r]) ∧ ZVal w.heap.size false (x / y) w' q ∧ ZVal w.heap.size false (x % y) w' r ∧ Below w.heap.size w w'

set_option maxRecDepth 100000 in
set_option maxHeartbeats 2000000 in
theorem gcd_any (hdiv : DivC) (na nb : Bool) (x y : Nat) (va vb : Value) (w : World) (ha : ZVal 0 na x w va) (hb : ZVal 0 nb y w vb) (hx : x < 10000) (hy : y < 10000) (hy0 : 0 < y) :
    Calls Tryd.prog 83 #[va, vb] w fun e w' => ∃ g v, e = .returned v ∧ 0 < g ∧ g < 10000 ∧ ZVal 0 false g w' v ∧ Below w.heap.size w w' := by
  have HDiv := Lib.hid hdiv
  obtain ⟨ao, ca, rfl, hda⟩ := ha
  obtain ⟨bo, cb, rfl, hdb⟩ := hb
  have HA := Lib.hid hda
  have HB := Lib.hid hdb
  clear hda hdb hdiv
  generalize hva : (na && decide (0 < (limbs x).length)) = sa at *
  generalize hvb : (nb && decide (0 < (limbs y).length)) = sb at *
  clear hva hvb
  have hW := three_below w #[.bool sa, .slice ao (limbs x).length ca] #[.bool sb, .slice bo (limbs y).length cb] #[.bool false, .slice none 0 0] 45 45 45
  have HW := Lib.hid hW
  have hcut := cut_z false x ao ca _ (HA.out.keep hW)
  have HCut := Lib.hid hcut
  clear hW hcut
  go_enter Tryd.func83, Tryd.ntmps83
  go_wp2_with fail
  refine HCut.out.mono ?_
  rintro e w2 ⟨rfl, hb2⟩
  rw [Bool.false_and]
  have hb3 := hb2.mono (B' := w.heap.size + 3) (by simp)
  have HB3 := Lib.hid hb3
  have p0 := (own3 hb3 0).1
  have p1 := (own3 hb3 1).1
  have q0 := (own3 hb3 0).2.1
  have q1 := (own3 hb3 1).2.1
  have hsz := (own3 hb3 0).2.2.2.2
  have hgf : GF w.heap.size w2 := ⟨fun B i h1 h2 => by
    rw [hb3.frozen (p := ⟨B, i, none⟩) (show B < w.heap.size + 3 by omega)]
    rcases (show B = w.heap.size ∨ B = w.heap.size + 1 ∨ B = w.heap.size + 1 + 1 by omega) with rfl | rfl | rfl <;> simp [go_sem], (own3 hb3 0).2.2.1, (own3 hb3 1).2.2.1, by omega⟩
  have z0 := hgf.z w.heap.size 0 (by omega) (by omega)
  have z1 := hgf.z w.heap.size 1 (by omega) (by omega)
  have HGF := Lib.hid hgf
  clear hgf
  simp only [List.getElem?_toArray, List.getElem?_cons_zero, List.getElem?_cons_succ] at p0 p1 q0 q1
  have g0 : w.heap.size < w2.heap.size := by omega
  have g1 : w.heap.size + 1 < w2.heap.size := by omega
  have HF2 : Hid (Below w.heap.size w w2) := HW.out.trans (hb3.mono (by omega))
  clear hb2 hb3
  go_wp2_with fail
  have hput := put2 (.bool false) (.slice ao (limbs x).length ca) p0 p1
  have hgf3 := (HGF.out.set (a := ⟨w.heap.size, 0, none⟩) (show w.heap.size ≠ w.heap.size + 1 + 1 by omega) (.bool false)).set (a := ⟨w.heap.size, 1, none⟩) (show w.heap.size ≠ w.heap.size + 1 + 1 by omega) (.slice ao (limbs x).length ca)
  have hF3 := (HF2.out.setCell (p := ⟨w.heap.size, 0, none⟩) (Nat.le_refl _) (.bool false)).setCell (p := ⟨w.heap.size, 1, none⟩) (Nat.le_refl _) (.slice ao (limbs x).length ca)
  have HQ := Lib.hid (And.intro q0 q1)
  clear p0 p1 q0 q1 z0 z1 HCut HB3
  generalize (w2.setCell ⟨w.heap.size, 0, none⟩ (.bool false)).setCell ⟨w.heap.size, 1, none⟩ (.slice ao (limbs x).length ca) = w3 at *
  obtain ⟨p0, p1, hoth, hss⟩ := hput
  have q0 := (hoth (w.heap.size + 1) 0 (by omega)).trans HQ.out.1
  have q1 := (hoth (w.heap.size + 1) 1 (by omega)).trans HQ.out.2
  have HP := Lib.hid (And.intro p0 (And.intro p1 (And.intro q0 q1)))
  have HG3 := Lib.hid hgf3
  have HF3 := Lib.hid hF3
  clear hoth p0 p1 hgf3 hF3 HQ HGF HF2
  refine (cut_z false y bo cb _ (HB.out.keep HF3.out)).mono ?_
  rintro e w4 ⟨rfl, hb4⟩
  rw [Bool.false_and]
  have HB4 := Lib.hid hb4
  have hg4 := HG3.out.keep hb4
  have g1' : w.heap.size + 1 < w3.heap.size := by omega
  have q40 := (hb4.cell (p := ⟨w.heap.size + 1, 0, none⟩) g1').trans q0
  have q41 := (hb4.cell (p := ⟨w.heap.size + 1, 1, none⟩) g1').trans q1
  have z40 := hg4.z (w.heap.size + 1) 0 (by omega) (by omega)
  have z41 := hg4.z (w.heap.size + 1) 1 (by omega) (by omega)
  have g14 : w.heap.size + 1 < w4.heap.size := by have := hg4.lt; omega
  have HG4 := Lib.hid hg4
  clear hb4 hg4 q0 q1
  go_wp2
  go_loopg [] y (fun g wr => ∃ x y : Nat, g = y ∧ (0 < x ∨ 0 < y) ∧ x < 10000 ∧ y < 10000 ∧ ZBox w.heap.size (w.heap.size + 3) w.heap.size x wr ∧ ZBox w.heap.size (w.heap.size + 3) (w.heap.size + 1) y wr ∧ GF w.heap.size wr ∧ Below w.heap.size w wr)
  case atStart =>
    obtain ⟨t0, t1, t2, t3⟩ := put2 (.bool false) (.slice bo (limbs y).length cb) q40 q41
    have hFF := ((HF3.out.trans (HB4.out.mono (by omega))).setCell (p := ⟨w.heap.size + 1, 0, none⟩) (Nat.le_succ _) (.bool false)).setCell (p := ⟨w.heap.size + 1, 1, none⟩) (Nat.le_succ _) (.slice bo (limbs y).length cb)
    refine ⟨x, y, rfl, .inr hy0, hx, hy, ⟨ao, ca, ?_, ?_, .inr ⟨w, ⟨ao, ca, by simp, HA.out⟩, Nat.le_refl _, hFF⟩⟩, ⟨bo, cb, t0, t1, .inr ⟨w, ⟨bo, cb, by simp, HB.out⟩, Nat.le_refl _, hFF⟩⟩, (HG4.out.set (show w.heap.size + 1 ≠ w.heap.size + 1 + 1 by omega) _).set (show w.heap.size + 1 ≠ w.heap.size + 1 + 1 by omega) _, hFF⟩
    · rw [t2 _ _ (by omega)]; exact (HB4.out.cell (p := ⟨w.heap.size, 0, none⟩) (show w.heap.size < w3.heap.size by omega)).trans HP.out.1
    · rw [t2 _ _ (by omega)]; exact (HB4.out.cell (p := ⟨w.heap.size, 1, none⟩) (show w.heap.size < w3.heap.size by omega)).trans HP.out.2.1
  case round =>
    clear HP HG3 HF3 HB4 HG4 q40 q41 z40 z41
    obtain ⟨X, Y, rfl, hpos, hX, hY, ⟨a1, k1, c0, c1, ho1⟩, ⟨a2, k2, d0, d1, ho2⟩, hgf, hbf⟩ := hrel
    have HO1 := Lib.hid ho1
    have HO2 := Lib.hid ho2
    have HGF := Lib.hid hgf
    have HBF := Lib.hid hbf
    have hlt := hgf.lt
    have l0 : w.heap.size < wr.heap.size := by omega
    have l1 : w.heap.size + 1 < wr.heap.size := by omega
    clear ho1 ho2 hbf
    by_cases hY0 : gk = 0
    · have hl : (limbs gk).length = 0 := by rw [hY0, limbs_zero]; rfl
      have hXp : 0 < X := by omega
      have r0 := hgf.r0
      have r1 := hgf.r1
      have z0 := hgf.z (w.heap.size + 1 + 1) 0 (by omega) (by omega)
      have z1 := hgf.z (w.heap.size + 1 + 1) 1 (by omega) (by omega)
      rw [hl] at d1
      clear hgf
      go_wp2
      refine bodyPost_ret (v := .agg #[.bool false, .slice a1 (limbs X).length k1]) (by simp [results, Tryd.results83, go_sem, r0, r1]) rfl ⟨X, _, rfl, hXp, hX, ?_, ?_⟩
      · exact ((HO1.out.set (a := ⟨w.heap.size + 1 + 1, 0, none⟩) (show w.heap.size ≤ w.heap.size + 1 + 1 by omega) (show w.heap.size + 1 + 1 < w.heap.size + 3 by omega) _).set (a := ⟨w.heap.size + 1 + 1, 1, none⟩) (show w.heap.size ≤ w.heap.size + 1 + 1 by omega) (show w.heap.size + 1 + 1 < w.heap.size + 3 by omega) _).zval
      · exact (HBF.out.setCell (p := ⟨w.heap.size + 1 + 1, 0, none⟩) (show w.heap.size ≤ w.heap.size + 1 + 1 by omega) _).setCell (p := ⟨w.heap.size + 1 + 1, 1, none⟩) (show w.heap.size ≤ w.heap.size + 1 + 1 by omega) _
    · have hlp : 0 < (limbs gk).length := by rw [limbs_pos hY0]; simp
      clear hgf
      go_wp2_with fail
      refine (HDiv.out _ _ X gk _ _ _ HO1.out.zval HO2.out.zval hX hY (by omega)).mono ?_
      rintro e w5 ⟨q, r, rfl, ⟨aq, kq, hq1, hq⟩, ⟨ar, kr, hr1, hr⟩, hb5⟩
      rw [Bool.false_and] at hq1 hr1
      subst hq1 hr1
      have e0 := (hb5.cell (p := ⟨w.heap.size, 0, none⟩) l0).trans c0
      have e1 := (hb5.cell (p := ⟨w.heap.size, 1, none⟩) l0).trans c1
      have f0 := (hb5.cell (p := ⟨w.heap.size + 1, 0, none⟩) l1).trans d0
      have f1 := (hb5.cell (p := ⟨w.heap.size + 1, 1, none⟩) l1).trans d1
      have hgf5 := HGF.out.keep hb5
      have z0 := hgf5.z w.heap.size 0 (by omega) (by omega)
      have z1 := hgf5.z w.heap.size 1 (by omega) (by omega)
      have z2 := hgf5.z (w.heap.size + 1) 0 (by omega) (by omega)
      have z3 := hgf5.z (w.heap.size + 1) 1 (by omega) (by omega)
      have l5 := hgf5.lt
      have l50 : w.heap.size < w5.heap.size := by omega
      have l51 : w.heap.size + 1 < w5.heap.size := by omega
      have HR := Lib.hid hr
      have HB5 := Lib.hid hb5
      have HG5 := Lib.hid hgf5
      have n0 : w.heap.size ≠ w5.heap.size := by omega
      have n1 : w.heap.size + 1 ≠ w5.heap.size := by omega
      have n2 : w.heap.size ≠ w5.heap.size + 1 := by omega
      have n3 : w.heap.size + 1 ≠ w5.heap.size + 1 := by omega
      clear hq hr hb5 hgf5 c0 c1 d0 d1
      have HC := Lib.hid (And.intro e0 (And.intro e1 (And.intro f0 f1)))
      go_wp2
      go_roundg (X % gk)
      case measure => exact Nat.mod_lt _ (by omega)
      case rel =>
        obtain ⟨t0, t1, t2, t3⟩ := put2 (.bool false) (.slice a2 (limbs gk).length k2) HC.out.1 HC.out.2.1
        have b0 := (t2 (w.heap.size + 1) 0 (by omega)).trans HC.out.2.2.1
        have b1 := (t2 (w.heap.size + 1) 1 (by omega)).trans HC.out.2.2.2
        have hg6 := (HG5.out.set (a := ⟨w.heap.size, 0, none⟩) (show w.heap.size ≠ w.heap.size + 1 + 1 by omega) (.bool false)).set (a := ⟨w.heap.size, 1, none⟩) (show w.heap.size ≠ w.heap.size + 1 + 1 by omega) (.slice a2 (limbs gk).length k2)
        have hb6 := ((HBF.out.trans (HB5.out.mono (by omega))).setCell (p := ⟨w.heap.size, 0, none⟩) (Nat.le_refl _) (.bool false)).setCell (p := ⟨w.heap.size, 1, none⟩) (Nat.le_refl _) (.slice a2 (limbs gk).length k2)
        have ho6 := ((HO2.out.keep HB5.out).set (a := ⟨w.heap.size, 0, none⟩) (Nat.le_refl _) (show w.heap.size < w.heap.size + 3 by omega) (.bool false)).set (a := ⟨w.heap.size, 1, none⟩) (Nat.le_refl _) (show w.heap.size < w.heap.size + 3 by omega) (.slice a2 (limbs gk).length k2)
        have hz5 : ZOut w.heap.size (w.heap.size + 3) (X % gk) w5 (.agg #[.bool false, .slice ar (limbs (X % gk)).length kr]) := .inl ⟨wr.heap.size, by omega, ⟨ar, kr, by simp, HR.out⟩⟩
        have hz6 := (hz5.set (a := ⟨w.heap.size, 0, none⟩) (Nat.le_refl _) (show w.heap.size < w.heap.size + 3 by omega) (.bool false)).set (a := ⟨w.heap.size, 1, none⟩) (Nat.le_refl _) (show w.heap.size < w.heap.size + 3 by omega) (.slice a2 (limbs gk).length k2)
        generalize (w5.setCell ⟨w.heap.size, 0, none⟩ (.bool false)).setCell ⟨w.heap.size, 1, none⟩ (.slice a2 (limbs gk).length k2) = w6 at *
        obtain ⟨u0, u1, u2, u3⟩ := put2 (.bool false) (.slice ar (limbs (X % gk)).length kr) b0 b1
        have c0 := (u2 w.heap.size 0 (by omega)).trans t0
        have c1 := (u2 w.heap.size 1 (by omega)).trans t1
        have hg7 := (hg6.set (a := ⟨w.heap.size + 1, 0, none⟩) (show w.heap.size + 1 ≠ w.heap.size + 1 + 1 by omega) (.bool false)).set (a := ⟨w.heap.size + 1, 1, none⟩) (show w.heap.size + 1 ≠ w.heap.size + 1 + 1 by omega) (.slice ar (limbs (X % gk)).length kr)
        have hb7 := (hb6.setCell (p := ⟨w.heap.size + 1, 0, none⟩) (Nat.le_succ _) (.bool false)).setCell (p := ⟨w.heap.size + 1, 1, none⟩) (Nat.le_succ _) (.slice ar (limbs (X % gk)).length kr)
        have ho7 := (ho6.set (a := ⟨w.heap.size + 1, 0, none⟩) (Nat.le_succ _) (show w.heap.size + 1 < w.heap.size + 3 by omega) (.bool false)).set (a := ⟨w.heap.size + 1, 1, none⟩) (Nat.le_succ _) (show w.heap.size + 1 < w.heap.size + 3 by omega) (.slice ar (limbs (X % gk)).length kr)
        have hz7 := (hz6.set (a := ⟨w.heap.size + 1, 0, none⟩) (Nat.le_succ _) (show w.heap.size + 1 < w.heap.size + 3 by omega) (.bool false)).set (a := ⟨w.heap.size + 1, 1, none⟩) (Nat.le_succ _) (show w.heap.size + 1 < w.heap.size + 3 by omega) (.slice ar (limbs (X % gk)).length kr)
        generalize (w6.setCell ⟨w.heap.size + 1, 0, none⟩ (.bool false)).setCell ⟨w.heap.size + 1, 1, none⟩ (.slice ar (limbs (X % gk)).length kr) = w7 at *
        have hlast : Below w7.heap.size w7 ((w7.alloc (.cells #[.bool false, .slice aq (limbs (X / gk)).length kq] 45)).alloc (.cells #[.bool false, .slice ar (limbs (X % gk)).length kr] 45)) := ((Below.refl _ _).alloc (Nat.le_refl _) _).alloc (by simp) _
        have l7 := hg7.lt
        exact ⟨gk, X % gk, rfl, .inl (by omega), hY, Nat.lt_of_le_of_lt (Nat.mod_le _ _) hX,
          ⟨a2, k2, (hlast.cell (p := ⟨w.heap.size, 0, none⟩) (show w.heap.size < w7.heap.size by omega)).trans c0, (hlast.cell (p := ⟨w.heap.size, 1, none⟩) (show w.heap.size < w7.heap.size by omega)).trans c1, ho7.keep hlast⟩,
          ⟨ar, kr, (hlast.cell (p := ⟨w.heap.size + 1, 0, none⟩) (show w.heap.size + 1 < w7.heap.size by omega)).trans u0, (hlast.cell (p := ⟨w.heap.size + 1, 1, none⟩) (show w.heap.size + 1 < w7.heap.size by omega)).trans u1, hz7.keep hlast⟩,
          hg7.keep hlast, hb7.trans (hlast.mono (by omega))⟩

end Go.Proofs.YthmjcjoecelnmaaDoor
