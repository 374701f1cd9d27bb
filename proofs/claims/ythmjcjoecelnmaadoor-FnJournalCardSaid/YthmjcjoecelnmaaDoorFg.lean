/-
  l01Make by its contract at integers of at most one digit, the second one not 0: some fraction of one digit each.
-/
import Derived.Test.YthmjcjoecelnmaaDoorFf
namespace Go.Proofs.YthmjcjoecelnmaaDoor
open Go.RowKit
set_option linter.unusedVariables false

/-- Some fraction of at most one digit each, in blocks from lo on. -/
def QW (lo : Nat) (w : World) (v : Value) : Prop :=
  ∃ ng ao n ca bo m cb, v = .agg #[.bool ng, .slice ao (limbs n).length ca, .bool false, .slice bo (limbs m).length cb] ∧ DAt lo w ao ca (limbs n) ∧ DAt lo w bo cb (limbs m) ∧ n < 10000 ∧ m < 10000

set_option maxRecDepth 100000 in
set_option maxHeartbeats 2000000 in
theorem make_any (hdiv : DivC) (na nb : Bool) (x y : Nat) (va vb : Value) (w : World) (ha : ZVal 0 na x w va) (hb : ZVal 0 nb y w vb) (hx : x < 10000) (hy : y < 10000) (hy0 : 0 < y) :
    Calls Tryd.prog 81 #[va, vb] w fun e w' => ∃ v, e = .returned v ∧ QW w.heap.size w' v ∧ Below w.heap.size w w' := by
  have HDiv := Lib.hid hdiv
  obtain ⟨ao, ca, rfl, hda⟩ := ha
  obtain ⟨bo, cb, rfl, hdb⟩ := hb
  have HA := Lib.hid hda
  have HB := Lib.hid hdb
  clear hda hdb hdiv
  generalize hva : (na && decide (0 < (limbs x).length)) = sa at *
  generalize hvb : (nb && decide (0 < (limbs y).length)) = sb at *
  have HVA := Lib.hid hva
  have HVB := Lib.hid hvb
  clear hva hvb
  have hW := three_below w #[.bool sa, .slice ao (limbs x).length ca] #[.bool sb, .slice bo (limbs y).length cb] #[.bool false, .slice none 0 0, .bool false, .slice none 0 0] 45 45 47
  have HW := Lib.hid hW
  have hzx : ∀ W, Below w.heap.size w W → ZVal 0 na x W (.agg #[.bool sa, .slice ao (limbs x).length ca]) := fun W hb => ⟨ao, ca, by rw [HVA.out], HA.out.keep hb⟩
  have hzy : ∀ W, Below w.heap.size w W → ZVal 0 nb y W (.agg #[.bool sb, .slice bo (limbs y).length cb]) := fun W hb => ⟨bo, cb, by rw [HVB.out], HB.out.keep hb⟩
  have HZX := Lib.hid hzx
  have HZY := Lib.hid hzy
  clear hW hzx hzy
  go_enter Tryd.func81, Tryd.ntmps81
  go_wp2_with fail
  refine (gcd_any HDiv.out na nb x y _ _ _ (HZX.out _ HW.out) (HZY.out _ HW.out) hx hy hy0).mono ?_
  rintro e w2 ⟨g, vg, rfl, hg0, hg1, ⟨ag, kg, hvg, hdg⟩, hb2⟩
  rw [Bool.false_and] at hvg
  subst hvg
  have hb3 := hb2.mono (B' := w.heap.size + 3) (by simp)
  have HB3 := Lib.hid hb3
  have HDG := Lib.hid hdg
  have p0 := (own3 hb3 0).1
  have p1 := (own3 hb3 1).1
  have q0 := (own3 hb3 0).2.1
  have q1 := (own3 hb3 1).2.1
  have hsz := (own3 hb3 0).2.2.2.2
  simp only [List.getElem?_toArray, List.getElem?_cons_zero, List.getElem?_cons_succ] at p0 p1 q0 q1
  have l0 : w.heap.size < w2.heap.size := by omega
  have l1 : w.heap.size + 1 < w2.heap.size := by omega
  have hF2 := HW.out.trans (hb3.mono (by omega))
  have HF2 := Lib.hid hF2
  clear hb2 hb3 hdg hF2
  go_wp2_with fail
  have hG3 : Below w2.heap.size w2 (w2.alloc (.cells #[.bool false, .slice ag (limbs g).length kg] 45)) := (Below.refl _ _).alloc (Nat.le_refl _) _
  have HG3 := Lib.hid hG3
  clear hG3
  refine (HDiv.out na false x g _ _ _ (HZX.out _ (HF2.out.trans (HG3.out.mono (by omega)))) ⟨ag, kg, by simp, HDG.out.keep HG3.out⟩ hx hg1 hg0).mono ?_
  rintro e w3 ⟨a, r, rfl, ⟨aa, ka, ha1, hda⟩, ⟨ar, kr, hr1, hdr⟩, hb4⟩
  rw [Bool.false_and] at ha1 hr1
  subst ha1 hr1
  have hb5 := hb4.mono (B' := w2.heap.size + 1) (by simp)
  have g0 := (own1 hb5 0).1
  have g1 := (own1 hb5 1).1
  have l3 := (own1 hb5 0).2.2
  simp only [List.getElem?_toArray, List.getElem?_cons_zero, List.getElem?_cons_succ] at g0 g1
  have hF3 : Below w2.heap.size w2 w3 := HG3.out.trans (hb5.mono (by omega))
  have HF3 := Lib.hid hF3
  have s0 := (hF3.cell (p := ⟨w.heap.size, 0, none⟩) l0).trans p0
  have s1 := (hF3.cell (p := ⟨w.heap.size, 1, none⟩) l0).trans p1
  have t0 := (hF3.cell (p := ⟨w.heap.size + 1, 0, none⟩) l1).trans q0
  have t1 := (hF3.cell (p := ⟨w.heap.size + 1, 1, none⟩) l1).trans q1
  have HDA := Lib.hid hda
  have m0 : w.heap.size < w3.heap.size := by omega
  have m1 : w.heap.size + 1 < w3.heap.size := by omega
  clear hda hdr hb4 hb5 hF3 p0 p1 q0 q1
  go_wp2_with fail
  have hG4 : Below w3.heap.size w3 ((w3.alloc (.cells #[.bool false, .slice aa (limbs (x / g)).length ka] 45)).alloc (.cells #[.bool false, .slice ar (limbs (x % g)).length kr] 45)) := ((Below.refl _ _).alloc (Nat.le_refl _) _).alloc (by simp) _
  have HG4 := Lib.hid hG4
  clear hG4
  refine (HDiv.out nb false y g _ _ _ (HZY.out _ ((HF2.out.trans (HF3.out.mono (by omega))).trans (HG4.out.mono (by omega)))) ⟨ag, kg, by simp, (HDG.out.keep HF3.out).keep HG4.out⟩ hy hg1 hg0).mono ?_
  rintro e w4 ⟨b, r2, rfl, ⟨ab, kb, hb1, hdb⟩, ⟨ar2, kr2, hr2, hdr2⟩, hb6⟩
  rw [Bool.false_and] at hb1 hr2
  subst hb1 hr2
  have hb7 := hb6.mono (B' := w3.heap.size + 2) (by simp)
  have h0 := (own2 hb7 0).1
  have h1 := (own2 hb7 1).1
  have l4 := (own2 hb7 0).2.2.2.2
  simp only [List.getElem?_toArray, List.getElem?_cons_zero, List.getElem?_cons_succ] at h0 h1
  have hF4 : Below w3.heap.size w3 w4 := HG4.out.trans (hb7.mono (by omega))
  have HF4 := Lib.hid hF4
  have u0 := (hF4.cell (p := ⟨w.heap.size, 0, none⟩) m0).trans s0
  have u1 := (hF4.cell (p := ⟨w.heap.size + 1, 0, none⟩) m1).trans t0
  have HDB := Lib.hid hdb
  have n0 : w.heap.size < w4.heap.size := by omega
  have n1 : w.heap.size + 1 < w4.heap.size := by omega
  have n3 : w3.heap.size < w4.heap.size := by omega
  have hall : Below (w.heap.size + 3) _ w4 := HB3.out.trans ((HF3.out.trans (HF4.out.mono (by omega))).mono (by omega))
  have HAll := Lib.hid hall
  clear hdb hdr2 hb6 hb7 hF4 s0 s1 t0 t1 g0 g1 hall
  go_wp2
  have hG5 : Below w4.heap.size w4 ((w4.alloc (.cells #[.bool false, .slice ab (limbs (y / g)).length kb] 45)).alloc (.cells #[.bool false, .slice ar2 (limbs (y % g)).length kr2] 45)) := ((Below.refl _ _).alloc (Nat.le_refl _) _).alloc (by simp) _
  have hc8 : ((w4.alloc (.cells #[.bool false, .slice ab (limbs (y / g)).length kb] 45)).alloc (.cells #[.bool false, .slice ar2 (limbs (y % g)).length kr2] 45)).cell? ⟨w4.heap.size, 0, none⟩ = some (.bool false) ∧ ((w4.alloc (.cells #[.bool false, .slice ab (limbs (y / g)).length kb] 45)).alloc (.cells #[.bool false, .slice ar2 (limbs (y % g)).length kr2] 45)).cell? ⟨w4.heap.size, 1, none⟩ = some (.slice ab (limbs (y / g)).length kb) := ⟨by simp [go_sem], by simp [go_sem]⟩
  have hs5 : w4.heap.size < ((w4.alloc (.cells #[.bool false, .slice ab (limbs (y / g)).length kb] 45)).alloc (.cells #[.bool false, .slice ar2 (limbs (y % g)).length kr2] 45)).heap.size := by simp; omega
  generalize (w4.alloc (.cells #[.bool false, .slice ab (limbs (y / g)).length kb] 45)).alloc (.cells #[.bool false, .slice ar2 (limbs (y % g)).length kr2] 45) = w5 at *
  obtain ⟨k0, k1⟩ := hc8
  have v0 := (hG5.cell (p := ⟨w.heap.size, 0, none⟩) n0).trans u0
  have v1 := (hG5.cell (p := ⟨w.heap.size + 1, 0, none⟩) n1).trans u1
  have h50 := (hG5.cell (p := ⟨w3.heap.size, 0, none⟩) n3).trans h0
  have h51 := (hG5.cell (p := ⟨w3.heap.size, 1, none⟩) n3).trans h1
  have HG5 := Lib.hid hG5
  have hall5 := HAll.out.trans (hG5.mono (by omega))
  have HA0 := Lib.hid (own3 hall5 0)
  have HA1 := Lib.hid (own3 hall5 1)
  have HA2 := Lib.hid (own3 hall5 2)
  have HA3 := Lib.hid (own3 hall5 3)
  have HW5 := Lib.hid (hall5.mono (B' := w.heap.size) (by omega))
  have x0 : w.heap.size < w5.heap.size := by omega
  have x1 : w.heap.size + 1 < w5.heap.size := by omega
  have x2 : w.heap.size + 1 + 1 < w5.heap.size := by omega
  have x3 : w3.heap.size < w5.heap.size := by omega
  have HK := Lib.hid (And.intro k0 k1)
  have HV := Lib.hid (And.intro v0 v1)
  have hxg : x / g < 10000 := Nat.lt_of_le_of_lt (Nat.div_le_self _ _) hx
  have hyg : y / g < 10000 := Nat.lt_of_le_of_lt (Nat.div_le_self _ _) hy
  clear hG5 hall5 h0 h1 u0 u1
  go_region_with (first | (go_at_call 55; refine (cut_z _ (x / g) aa ka w5.drew (((HDA.out.low (Nat.zero_le _)).keep HF4.out).keep HG5.out.drew)).mono ?_; rintro e w6 ⟨rfl, hb0⟩; have hb : Below w5.heap.size w5 w6 := ((Below.refl _ w5).drew).trans hb0; have HB6 := Lib.hid hb; have y0 := (hb.cell (p := ⟨w4.heap.size, 0, none⟩) hs5).trans HK.out.1; have y1 := (hb.cell (p := ⟨w4.heap.size, 1, none⟩) hs5).trans HK.out.2; have c0 := (hb.cell (p := ⟨w.heap.size + 1 + 1, 0, none⟩) x2).trans HA0.out.2.2.1; have c1 := (hb.cell (p := ⟨w.heap.size + 1 + 1, 1, none⟩) x2).trans HA1.out.2.2.1; have c2 := (hb.cell (p := ⟨w.heap.size + 1 + 1, 2, none⟩) x2).trans HA2.out.2.2.1; have c3 := (hb.cell (p := ⟨w.heap.size + 1 + 1, 3, none⟩) x2).trans HA3.out.2.2.1; have f0 := (hb.frozen (p := ⟨w.heap.size + 1 + 1, 0, none⟩) x2).trans HA0.out.2.2.2.1; have f1 := (hb.frozen (p := ⟨w.heap.size + 1 + 1, 1, none⟩) x2).trans HA1.out.2.2.2.1; have f2 := (hb.frozen (p := ⟨w.heap.size + 1 + 1, 2, none⟩) x2).trans HA2.out.2.2.2.1; have f3 := (hb.frozen (p := ⟨w.heap.size + 1 + 1, 3, none⟩) x2).trans HA3.out.2.2.2.1; have z2 : w.heap.size + 1 + 1 < w6.heap.size := Nat.lt_of_lt_of_le x2 hb.size; simp only [List.getElem?_toArray, List.getElem?_cons_zero, List.getElem?_cons_succ] at c0 c1 c2 c3; clear hb hb0))
  all_goals
    go_wp2
    have hA6 := ((((((HDA.out.keep HF4.out).keep HG5.out).keep HB6.out).set (a := ⟨w.heap.size + 1 + 1, 0, none⟩) (show w.heap.size + 1 + 1 < _ by simp; omega) (.bool (!(sa == sb) && decide (0 < (limbs (x / g)).length)))).set (a := ⟨w.heap.size + 1 + 1, 1, none⟩) (show w.heap.size + 1 + 1 < _ by simp; omega) (.slice aa (limbs (x / g)).length ka)).set (a := ⟨w.heap.size + 1 + 1, 2, none⟩) (show w.heap.size + 1 + 1 < _ by simp; omega) (.bool false)).set (a := ⟨w.heap.size + 1 + 1, 3, none⟩) (show w.heap.size + 1 + 1 < _ by simp; omega) (.slice ab (limbs (y / g)).length kb)
    have hB6 := (((((HDB.out.keep HG5.out).keep HB6.out).set (a := ⟨w.heap.size + 1 + 1, 0, none⟩) (show w.heap.size + 1 + 1 < _ by simp; omega) (.bool (!(sa == sb) && decide (0 < (limbs (x / g)).length)))).set (a := ⟨w.heap.size + 1 + 1, 1, none⟩) (show w.heap.size + 1 + 1 < _ by simp; omega) (.slice aa (limbs (x / g)).length ka)).set (a := ⟨w.heap.size + 1 + 1, 2, none⟩) (show w.heap.size + 1 + 1 < _ by simp; omega) (.bool false)).set (a := ⟨w.heap.size + 1 + 1, 3, none⟩) (show w.heap.size + 1 + 1 < _ by simp; omega) (.slice ab (limbs (y / g)).length kb)
    have hW6 := HW.out.trans ((HW5.out.trans (HB6.out.mono (by omega))).mono (Nat.le_refl _))
    refine bodyPost_ret (v := .agg #[.bool (!(sa == sb) && decide (0 < (limbs (x / g)).length)), .slice aa (limbs (x / g)).length ka, .bool false, .slice ab (limbs (y / g)).length kb]) (by simp [results, Tryd.results81, go_sem, c0, c1, c2, c3]) rfl ⟨_, rfl, ⟨_, aa, x / g, ka, ab, y / g, kb, rfl, hA6.low (show w.heap.size ≤ (w2.alloc _).heap.size by simp; omega), hB6.low (show w.heap.size ≤ ((w3.alloc _).alloc _).heap.size by simp; omega), hxg, hyg⟩, ?_⟩
    exact (((hW6.setCell (p := ⟨w.heap.size + 1 + 1, 0, none⟩) (show w.heap.size ≤ w.heap.size + 1 + 1 by omega) _).setCell (p := ⟨w.heap.size + 1 + 1, 1, none⟩) (show w.heap.size ≤ w.heap.size + 1 + 1 by omega) _).setCell (p := ⟨w.heap.size + 1 + 1, 2, none⟩) (show w.heap.size ≤ w.heap.size + 1 + 1 by omega) _).setCell (p := ⟨w.heap.size + 1 + 1, 3, none⟩) (show w.heap.size ≤ w.heap.size + 1 + 1 by omega) _

end Go.Proofs.YthmjcjoecelnmaaDoor
