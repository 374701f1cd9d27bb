/-
  l01DivQ by its contract at two integers of at most one digit, the second one not 0: some fraction of at most one digit each.
-/
import Derived.Test.YthmjcjoecelnmaaDoorFg
import Derived.Deep.RegionHeld3
namespace Go.Proofs.YthmjcjoecelnmaaDoor
open Go.RowKit
set_option linter.unusedVariables false

theorem set4 {w : World} {B : Nat} (u0 u1 u2 u3 : Value) (b o : Nat) (h : b ≠ B) : ((((w.setCell ⟨B, 0, none⟩ u0).setCell ⟨B, 1, none⟩ u1).setCell ⟨B, 2, none⟩ u2).setCell ⟨B, 3, none⟩ u3).cell? ⟨b, o, none⟩ = w.cell? ⟨b, o, none⟩ := by
  refine World.cell?_of_block ?_
  rw [Below.heap_setCell _ _ _ _ h, Below.heap_setCell _ _ _ _ h, Below.heap_setCell _ _ _ _ h, Below.heap_setCell _ _ _ _ h]

set_option maxRecDepth 100000 in
set_option maxHeartbeats 2000000 in
theorem divQ_any (hdiv : DivC) (na nb : Bool) (x y : Nat) (va vb : Value) (w : World) (ha : QVal 0 na x 1 w va) (hb : QVal 0 nb y 1 w vb) (hx : x < 10000) (hy : y < 10000) (hy0 : 0 < y) :
    Calls Tryd.prog 76 #[va, vb] w fun e w' => ∃ v, e = .returned v ∧ QW w.heap.size w' v ∧ Below w.heap.size w w' := by
  have HDiv := Lib.hid hdiv
  obtain ⟨ao, ca, ao1, ca1, rfl, hda, hda1⟩ := ha
  obtain ⟨bo, cb, bo1, cb1, rfl, hdb, hdb1⟩ := hb
  have hW := three_below w #[.bool (na && decide (0 < (limbs x).length)), .slice ao (limbs x).length ca, .bool false, .slice ao1 (limbs 1).length ca1] #[.bool (nb && decide (0 < (limbs y).length)), .slice bo (limbs y).length cb, .bool false, .slice bo1 (limbs 1).length cb1] #[.bool false, .slice none 0 0, .bool false, .slice none 0 0] 47 47 47
  have HW := Lib.hid hW
  have hz1 : ∀ W, Below w.heap.size w W → ZVal 0 na x W (.agg #[.bool (na && decide (0 < (limbs x).length)), .slice ao (limbs x).length ca]) := fun W hb => ⟨ao, ca, rfl, hda.keep hb⟩
  have hz2 : ∀ W, Below w.heap.size w W → ZVal 0 false 1 W (.agg #[.bool false, .slice ao1 (limbs 1).length ca1]) := fun W hb => ⟨ao1, ca1, by simp, hda1.keep hb⟩
  have hz3 : ∀ W, Below w.heap.size w W → ZVal 0 nb y W (.agg #[.bool (nb && decide (0 < (limbs y).length)), .slice bo (limbs y).length cb]) := fun W hb => ⟨bo, cb, rfl, hdb.keep hb⟩
  have hz4 : ∀ W, Below w.heap.size w W → ZVal 0 false 1 W (.agg #[.bool false, .slice bo1 (limbs 1).length cb1]) := fun W hb => ⟨bo1, cb1, by simp, hdb1.keep hb⟩
  have HZ1 := Lib.hid hz1
  have HZ2 := Lib.hid hz2
  have HZ3 := Lib.hid hz3
  have HZ4 := Lib.hid hz4
  clear hW hz1 hz2 hz3 hz4 hda hda1 hdb hdb1 hdiv
  generalize (na && decide (0 < (limbs x).length)) = sa at *
  generalize (nb && decide (0 < (limbs y).length)) = sb at *
  generalize hlx : (limbs x).length = lx at *
  generalize hly : (limbs y).length = ly at *
  generalize hl1 : (limbs 1).length = l1 at *
  clear hlx hly hl1
  have hown : ∀ W, Below (w.heap.size + 3) (((w.alloc (.cells #[.bool sa, .slice ao lx ca, .bool false, .slice ao1 l1 ca1] 47)).alloc (.cells #[.bool sb, .slice bo ly cb, .bool false, .slice bo1 l1 cb1] 47)).alloc (.cells #[.bool false, .slice none 0 0, .bool false, .slice none 0 0] 47)) W →
      (W.cell? ⟨w.heap.size, 0, none⟩ = some (.bool sa) ∧ W.cell? ⟨w.heap.size, 1, none⟩ = some (.slice ao lx ca) ∧ W.cell? ⟨w.heap.size, 2, none⟩ = some (.bool false) ∧ W.cell? ⟨w.heap.size, 3, none⟩ = some (.slice ao1 l1 ca1) ∧
       W.cell? ⟨w.heap.size + 1, 0, none⟩ = some (.bool sb) ∧ W.cell? ⟨w.heap.size + 1, 1, none⟩ = some (.slice bo ly cb) ∧ W.cell? ⟨w.heap.size + 1, 2, none⟩ = some (.bool false) ∧ W.cell? ⟨w.heap.size + 1, 3, none⟩ = some (.slice bo1 l1 cb1)) := fun W hb =>
    ⟨(own3 hb 0).1, (own3 hb 1).1, (own3 hb 2).1, (own3 hb 3).1, (own3 hb 0).2.1, (own3 hb 1).2.1, (own3 hb 2).2.1, (own3 hb 3).2.1⟩
  have HOwn := Lib.hid hown
  have hr : ∀ W, Below (w.heap.size + 3) (((w.alloc (.cells #[.bool sa, .slice ao lx ca, .bool false, .slice ao1 l1 ca1] 47)).alloc (.cells #[.bool sb, .slice bo ly cb, .bool false, .slice bo1 l1 cb1] 47)).alloc (.cells #[.bool false, .slice none 0 0, .bool false, .slice none 0 0] 47)) W →
      (W.cell? ⟨w.heap.size + 1 + 1, 0, none⟩ = some (.bool false) ∧ W.cell? ⟨w.heap.size + 1 + 1, 1, none⟩ = some (.slice none 0 0) ∧ W.cell? ⟨w.heap.size + 1 + 1, 2, none⟩ = some (.bool false) ∧ W.cell? ⟨w.heap.size + 1 + 1, 3, none⟩ = some (.slice none 0 0) ∧ ∀ i, W.frozen? ⟨w.heap.size + 1 + 1, i, none⟩ = false) := fun W hb =>
    ⟨(own3 hb 0).2.2.1, (own3 hb 1).2.2.1, (own3 hb 2).2.2.1, (own3 hb 3).2.2.1, fun i => (own3 hb i).2.2.2.1⟩
  have HR := Lib.hid hr
  have hs0 : (((w.alloc (.cells #[.bool sa, .slice ao lx ca, .bool false, .slice ao1 l1 ca1] 47)).alloc (.cells #[.bool sb, .slice bo ly cb, .bool false, .slice bo1 l1 cb1] 47)).alloc (.cells #[.bool false, .slice none 0 0, .bool false, .slice none 0 0] 47)).heap.size = w.heap.size + 3 := by simp
  have HS0 := Lib.hid hs0
  clear hown hr hs0
  go_enter Tryd.func76, Tryd.ntmps76
  go_wp2
  generalize hW0 : (((w.alloc (.cells #[.bool sa, .slice ao lx ca, .bool false, .slice ao1 l1 ca1] 47)).alloc (.cells #[.bool sb, .slice bo ly cb, .bool false, .slice bo1 l1 cb1] 47)).alloc (.cells #[.bool false, .slice none 0 0, .bool false, .slice none 0 0] 47)) = W0 at *
  have HW0 := Lib.hid hW0
  clear hW0
  have hs0 := Nat.le_of_eq HS0.out.symm
  have k0 := HOwn.out W0 (Below.refl _ _)
  have f0 := k0.1
  have f1 := k0.2.1
  have f2 := k0.2.2.1
  have f3 := k0.2.2.2.1
  have f4 := k0.2.2.2.2.1
  have f5 := k0.2.2.2.2.2.1
  have f6 := k0.2.2.2.2.2.2.1
  have f7 := k0.2.2.2.2.2.2.2
  clear k0
  have hown4 : ∀ (W : World) (u0 u1 u2 u3 : Value), Below (w.heap.size + 3) W0 W → (((((W.setCell ⟨w.heap.size + 1 + 1, 0, none⟩ u0).setCell ⟨w.heap.size + 1 + 1, 1, none⟩ u1).setCell ⟨w.heap.size + 1 + 1, 2, none⟩ u2).setCell ⟨w.heap.size + 1 + 1, 3, none⟩ u3).cell? ⟨w.heap.size, 0, none⟩ = some (.bool sa) ∧ ((((W.setCell ⟨w.heap.size + 1 + 1, 0, none⟩ u0).setCell ⟨w.heap.size + 1 + 1, 1, none⟩ u1).setCell ⟨w.heap.size + 1 + 1, 2, none⟩ u2).setCell ⟨w.heap.size + 1 + 1, 3, none⟩ u3).cell? ⟨w.heap.size, 1, none⟩ = some (.slice ao lx ca) ∧ ((((W.setCell ⟨w.heap.size + 1 + 1, 0, none⟩ u0).setCell ⟨w.heap.size + 1 + 1, 1, none⟩ u1).setCell ⟨w.heap.size + 1 + 1, 2, none⟩ u2).setCell ⟨w.heap.size + 1 + 1, 3, none⟩ u3).cell? ⟨w.heap.size, 2, none⟩ = some (.bool false) ∧ ((((W.setCell ⟨w.heap.size + 1 + 1, 0, none⟩ u0).setCell ⟨w.heap.size + 1 + 1, 1, none⟩ u1).setCell ⟨w.heap.size + 1 + 1, 2, none⟩ u2).setCell ⟨w.heap.size + 1 + 1, 3, none⟩ u3).cell? ⟨w.heap.size, 3, none⟩ = some (.slice ao1 l1 ca1) ∧ ((((W.setCell ⟨w.heap.size + 1 + 1, 0, none⟩ u0).setCell ⟨w.heap.size + 1 + 1, 1, none⟩ u1).setCell ⟨w.heap.size + 1 + 1, 2, none⟩ u2).setCell ⟨w.heap.size + 1 + 1, 3, none⟩ u3).cell? ⟨w.heap.size + 1, 0, none⟩ = some (.bool sb) ∧ ((((W.setCell ⟨w.heap.size + 1 + 1, 0, none⟩ u0).setCell ⟨w.heap.size + 1 + 1, 1, none⟩ u1).setCell ⟨w.heap.size + 1 + 1, 2, none⟩ u2).setCell ⟨w.heap.size + 1 + 1, 3, none⟩ u3).cell? ⟨w.heap.size + 1, 1, none⟩ = some (.slice bo ly cb) ∧ ((((W.setCell ⟨w.heap.size + 1 + 1, 0, none⟩ u0).setCell ⟨w.heap.size + 1 + 1, 1, none⟩ u1).setCell ⟨w.heap.size + 1 + 1, 2, none⟩ u2).setCell ⟨w.heap.size + 1 + 1, 3, none⟩ u3).cell? ⟨w.heap.size + 1, 2, none⟩ = some (.bool false) ∧ ((((W.setCell ⟨w.heap.size + 1 + 1, 0, none⟩ u0).setCell ⟨w.heap.size + 1 + 1, 1, none⟩ u1).setCell ⟨w.heap.size + 1 + 1, 2, none⟩ u2).setCell ⟨w.heap.size + 1 + 1, 3, none⟩ u3).cell? ⟨w.heap.size + 1, 3, none⟩ = some (.slice bo1 l1 cb1)) := fun W u0 u1 u2 u3 hb =>
    ⟨(set4 u0 u1 u2 u3 w.heap.size 0 (by omega)).trans (HOwn.out W hb).1, (set4 u0 u1 u2 u3 w.heap.size 1 (by omega)).trans (HOwn.out W hb).2.1, (set4 u0 u1 u2 u3 w.heap.size 2 (by omega)).trans (HOwn.out W hb).2.2.1, (set4 u0 u1 u2 u3 w.heap.size 3 (by omega)).trans (HOwn.out W hb).2.2.2.1,
     (set4 u0 u1 u2 u3 (w.heap.size + 1) 0 (by omega)).trans (HOwn.out W hb).2.2.2.2.1, (set4 u0 u1 u2 u3 (w.heap.size + 1) 1 (by omega)).trans (HOwn.out W hb).2.2.2.2.2.1, (set4 u0 u1 u2 u3 (w.heap.size + 1) 2 (by omega)).trans (HOwn.out W hb).2.2.2.2.2.2.1, (set4 u0 u1 u2 u3 (w.heap.size + 1) 3 (by omega)).trans (HOwn.out W hb).2.2.2.2.2.2.2⟩
  have HOwn4 := Lib.hid hown4
  clear hown4
  go_region_held3 (fun w' => w'.cell? ⟨w.heap.size, 0, none⟩ = some (.bool sa) ∧ w'.cell? ⟨w.heap.size, 1, none⟩ = some (.slice ao lx ca) ∧ w'.cell? ⟨w.heap.size, 2, none⟩ = some (.bool false) ∧ w'.cell? ⟨w.heap.size, 3, none⟩ = some (.slice ao1 l1 ca1) ∧
       w'.cell? ⟨w.heap.size + 1, 0, none⟩ = some (.bool sb) ∧ w'.cell? ⟨w.heap.size + 1, 1, none⟩ = some (.slice bo ly cb) ∧ w'.cell? ⟨w.heap.size + 1, 2, none⟩ = some (.bool false) ∧ w'.cell? ⟨w.heap.size + 1, 3, none⟩ = some (.slice bo1 l1 cb1)) (first | exact HOwn4.out w3 (.bool ng) (.slice a3 (limbs n3).length c3) (.bool false) (.slice b3 (limbs m3).length d3) HB3.out | exact HOwn.out w3 HB3.out | exact HOwn.out w2 HB2.out | exact HOwn.out w1 HB1.out | go_keep)
    (first
      | (go_at_call_of 82 (Value.agg #[.bool sa, .slice ao lx ca]); refine (mul_any na false x 1 _ _ W0.drew (HZ1.out _ HW.out.drew) (HZ4.out _ HW.out.drew) hx (by omega) (by omega)).mono ?_; rintro e w1 ⟨v1, rfl, hv1, hb1⟩; have HV1 := Lib.hid hv1; have HB1 : Hid (Below (w.heap.size + 3) W0 w1) := ((Below.refl _ W0).drew).trans (hb1.mono (by simp; omega)); have s1 := HB1.out.size; clear hv1 hb1)
      | (go_at_call_of 82 (Value.agg #[.bool false, .slice ao1 l1 ca1]); refine (mul_any false nb 1 y _ _ w1 (HZ2.out _ (HW.out.trans (HB1.out.mono (by omega)))) (HZ3.out _ (HW.out.trans (HB1.out.mono (by omega)))) (by omega) hy hy0).mono ?_; rintro e w2 ⟨v2, rfl, hv2, hb2⟩; have HV2 := Lib.hid hv2; have HC2 := Lib.hid hb2; have HB2 : Hid (Below (w.heap.size + 3) W0 w2) := HB1.out.trans (hb2.mono (by omega)); have s2 := HB2.out.size; clear hv2 hb2)
      | (go_at_call 81; refine (make_any HDiv.out (na != false) (false != nb) (x * 1) (1 * y) v1 v2 w2 ((HV1.out.keep HC2.out).low (Nat.zero_le _)) (HV2.out.low (Nat.zero_le _)) (by omega) (by omega) (by omega)).mono ?_; rintro e w3 ⟨v3, rfl, ⟨ng, a3, n3, c3, b3, m3, d3, rfl, hA3, hB3, hn3, hm3⟩, hb3⟩; have HA3 := Lib.hid hA3; have HB33 := Lib.hid hB3; have HB3 : Hid (Below (w.heap.size + 3) W0 w3) := HB2.out.trans (hb3.mono (by omega)); have s3 := HB3.out.size; have r0 := (HR.out w3 HB3.out).1; have r1 := (HR.out w3 HB3.out).2.1; have r2 := (HR.out w3 HB3.out).2.2.1; have r3 := (HR.out w3 HB3.out).2.2.2.1; have z0 := (HR.out w3 HB3.out).2.2.2.2 0; have z1 := (HR.out w3 HB3.out).2.2.2.2 1; have z2 := (HR.out w3 HB3.out).2.2.2.2 2; have z3 := (HR.out w3 HB3.out).2.2.2.2 3; clear hA3 hB3 hb3))
  all_goals go_wp2
  have hF := (HW.out.trans (HB3.out.mono (by omega)))
  refine bodyPost_ret (v := .agg #[.bool ng, .slice a3 (limbs n3).length c3, .bool false, .slice b3 (limbs m3).length d3]) (by simp [results, Tryd.results76, go_sem, r0, r1, r2, r3]) rfl ⟨_, rfl, ⟨ng, a3, n3, c3, b3, m3, d3, rfl, ?_, ?_, hn3, hm3⟩, ?_⟩
  · exact ((((HA3.out.set (a := ⟨w.heap.size + 1 + 1, 0, none⟩) (show w.heap.size + 1 + 1 < w2.heap.size by omega) _).set (a := ⟨w.heap.size + 1 + 1, 1, none⟩) (show w.heap.size + 1 + 1 < w2.heap.size by omega) _).set (a := ⟨w.heap.size + 1 + 1, 2, none⟩) (show w.heap.size + 1 + 1 < w2.heap.size by omega) _).set (a := ⟨w.heap.size + 1 + 1, 3, none⟩) (show w.heap.size + 1 + 1 < w2.heap.size by omega) _).low (by omega)
  · exact ((((HB33.out.set (a := ⟨w.heap.size + 1 + 1, 0, none⟩) (show w.heap.size + 1 + 1 < w2.heap.size by omega) _).set (a := ⟨w.heap.size + 1 + 1, 1, none⟩) (show w.heap.size + 1 + 1 < w2.heap.size by omega) _).set (a := ⟨w.heap.size + 1 + 1, 2, none⟩) (show w.heap.size + 1 + 1 < w2.heap.size by omega) _).set (a := ⟨w.heap.size + 1 + 1, 3, none⟩) (show w.heap.size + 1 + 1 < w2.heap.size by omega) _).low (by omega)
  · exact (((hF.setCell (p := ⟨w.heap.size + 1 + 1, 0, none⟩) (show w.heap.size ≤ w.heap.size + 1 + 1 by omega) _).setCell (p := ⟨w.heap.size + 1 + 1, 1, none⟩) (show w.heap.size ≤ w.heap.size + 1 + 1 by omega) _).setCell (p := ⟨w.heap.size + 1 + 1, 2, none⟩) (show w.heap.size ≤ w.heap.size + 1 + 1 by omega) _).setCell (p := ⟨w.heap.size + 1 + 1, 3, none⟩) (show w.heap.size ≤ w.heap.size + 1 + 1 by omega) _

end Go.Proofs.YthmjcjoecelnmaaDoor
