/-
  l01ZDiv by its contract at integers of one digit: quotient and rest.
-/
import Derived.Test.YthmjcjoecelnmaaDoorFd
namespace Go.Proofs.YthmjcjoecelnmaaDoor
open Go.RowKit
set_option linter.unusedVariables false

/-- What stays as it is while the digits are found: the divisor's block, and that the quotient's row and the rest's block may be written. -/
structure DV (B6 B8 B9 b' o' cb : Nat) (w : World) : Prop where
  y0 : w.cell? ⟨B6, 0, none⟩ = some (.bool false)
  y1 : w.cell? ⟨B6, 1, none⟩ = some (.slice (some ⟨b', o', none⟩) 1 cb)
  z8 : w.frozen? ⟨B8, 0, none⟩ = false
  z90 : w.frozen? ⟨B9, 0, none⟩ = false
  z91 : w.frozen? ⟨B9, 1, none⟩ = false
  l6 : B6 < B8
  l8 : B8 < B9
  l9 : B9 < w.heap.size

theorem DV.keep {B6 B8 B9 b' o' cb : Nat} {w w' : World} (h : DV B6 B8 B9 b' o' cb w) (hb : Below w.heap.size w w') : DV B6 B8 B9 b' o' cb w' := by
  obtain ⟨y0, y1, z8, z90, z91, l6, l8, l9⟩ := h
  exact ⟨(hb.cell (p := ⟨B6, 0, none⟩) (show B6 < _ by omega)).trans y0, (hb.cell (p := ⟨B6, 1, none⟩) (show B6 < _ by omega)).trans y1, (hb.frozen (p := ⟨B8, 0, none⟩) (show B8 < _ by omega)).trans z8, (hb.frozen (p := ⟨B9, 0, none⟩) (show B9 < _ by omega)).trans z90, (hb.frozen (p := ⟨B9, 1, none⟩) (show B9 < _ by omega)).trans z91, l6, l8, Nat.lt_of_lt_of_le l9 hb.size⟩

theorem DV.set {B6 B8 B9 b' o' cb : Nat} {w : World} (h : DV B6 B8 B9 b' o' cb w) {a : Addr} (ha : B8 ≤ a.block) (v : Value) : DV B6 B8 B9 b' o' cb (w.setCell a v) := by
  obtain ⟨y0, y1, z8, z90, z91, l6, l8, l9⟩ := h
  have hb : Below B8 w (w.setCell a v) := (Below.refl _ _).setCell ha v
  refine ⟨(hb.cell (p := ⟨B6, 0, none⟩) l6).trans y0, (hb.cell (p := ⟨B6, 1, none⟩) l6).trans y1, ?_, ?_, ?_, l6, l8, by simpa [World.setCell] using l9⟩
  · rw [World.frozen?_setCell]; exact z8
  · rw [World.frozen?_setCell]; exact z90
  · rw [World.frozen?_setCell]; exact z91

/-- Two cells of a block stored. -/
theorem store2 {w : World} {B : Nat} {a0 a1 : Value} (u0 u1 : Value) (h0 : w.cell? ⟨B, 0, none⟩ = some a0) (h1 : w.cell? ⟨B, 1, none⟩ = some a1) :
    ((w.setCell ⟨B, 0, none⟩ u0).setCell ⟨B, 1, none⟩ u1).cell? ⟨B, 0, none⟩ = some u0 ∧ ((w.setCell ⟨B, 0, none⟩ u0).setCell ⟨B, 1, none⟩ u1).cell? ⟨B, 1, none⟩ = some u1 ∧ (∀ b o, b ≠ B → ((w.setCell ⟨B, 0, none⟩ u0).setCell ⟨B, 1, none⟩ u1).cell? ⟨b, o, none⟩ = w.cell? ⟨b, o, none⟩) ∧ ((w.setCell ⟨B, 0, none⟩ u0).setCell ⟨B, 1, none⟩ u1).heap.size = w.heap.size := by
  refine ⟨by simp [go_sem, h0], by simp [go_sem, h1], fun b o hb => ?_, by simp [World.setCell]⟩
  refine World.cell?_of_block ?_
  rw [Below.heap_setCell _ _ _ _ hb, Below.heap_setCell _ _ _ _ hb]

/-- The rest's block: a sign and a slice. -/
def RestAt (lo B9 : Nat) (r : Nat) (w : World) : Prop :=
  ∃ ra rc, w.cell? ⟨B9, 0, none⟩ = some (.bool false) ∧ w.cell? ⟨B9, 1, none⟩ = some (.slice ra (limbs r).length rc) ∧ ZVal lo false r w (.agg #[.bool false, .slice ra (limbs r).length rc])

theorem ZVal.set {lo : Nat} {neg : Bool} {n : Nat} {w : World} {v : Value} (h : ZVal lo neg n w v) {a : Addr} (ha : a.block < lo) (u : Value) : ZVal lo neg n (w.setCell a u) v := by
  obtain ⟨ao, cap, rfl, hd⟩ := h
  exact ⟨ao, cap, rfl, hd.set ha u⟩

theorem zof_nat (X : Int) (w : World) (h0 : 0 ≤ X) (h1 : X < 10000) :
    Calls Tryd.prog 43 #[.int .i64 X] w fun e w' => ∃ v, e = .returned v ∧ ZVal 0 false X.toNat w' v ∧ Below w.heap.size w w' := by
  refine (zof_any X w (by omega) (by omega)).mono ?_
  rintro e w' ⟨v, rfl, hv, hb⟩
  have e1 : decide (X < 0) = false := by simp; omega
  have e2 : X.natAbs = X.toNat := by omega
  rw [e1, e2] at hv
  exact ⟨v, rfl, hv.low (Nat.zero_le _), hb⟩

/-- A Cut of one digit that may be 0. -/
theorem cut_q (b o cap q : Nat) (w : World) (hx : w.cell? ⟨b, o, none⟩ = some (.int .i64 q)) (hbl : b < w.heap.size) (h1 : q < 10000) (hc : 1 ≤ cap) (hc2 : cap ≤ 9223372036854775807) :
    Calls Tryd.prog 55 #[.bool false, .slice (some ⟨b, o, none⟩) 1 cap] w fun e w' => e = .returned (.agg #[.bool false, .slice (some ⟨b, o, none⟩) (limbs q).length cap]) ∧ Below w.heap.size w w' := by
  have hr : RowAt 0 w (some ⟨b, o, none⟩) [(q : Int)] := fun _ => ⟨b, o, rfl, Nat.zero_le _, hbl, fun t ht => by
    match t, ht with
    | 0, _ => exact hx⟩
  refine (cut_any false (some ⟨b, o, none⟩) [(q : Int)] cap w hr (fun h => by cases h) hc hc2).mono ?_
  rintro e w' ⟨m, hm, rfl, hz, hl, hb⟩
  obtain ⟨rfl, -⟩ := cut1 h1 hm hz hl
  exact ⟨rfl, hb⟩
theorem zval_q {lo b o cap q : Nat} {w : World} (hx : w.cell? ⟨b, o, none⟩ = some (.int .i64 q)) (hlo : lo ≤ b) (hbl : b < w.heap.size) (h1 : q < 10000) (hc : 1 ≤ cap) (hc2 : cap ≤ 9223372036854775807) : ZVal lo false q w (.agg #[.bool false, .slice (some ⟨b, o, none⟩) (limbs q).length cap]) := by
  by_cases h0 : q = 0
  · subst h0
    rw [limbs_zero]
    exact zval_zero _ _ _ (fun h => by cases h) hc2
  · rw [limbs_one_digit (by omega) h1]
    exact zval_one hx hlo hbl (by omega) h1 hc hc2

/-- The quotient lies at or above the middle, or below it. -/
theorem quo_mid {x y m : Nat} (hy : 0 < y) : (y * m ≤ x ↔ m ≤ x / y) := by
  rw [Nat.le_div_iff_mul_le hy, Nat.mul_comm]

theorem cmpN_le {a b : Nat} : (decide (cmpN a b ≤ 0)) = decide (a ≤ b) := by
  unfold cmpN
  by_cases h : a < b
  · rw [if_pos h]; simp; omega
  · rw [if_neg h]
    by_cases h2 : b < a
    · rw [if_pos h2]; simp; omega
    · rw [if_neg h2]; simp; omega

set_option maxRecDepth 100000 in
set_option maxHeartbeats 4000000 in
theorem div_1 (na nb : Bool) (b o b' o' ca cb x y : Nat) (w : World) (hx : w.cell? ⟨b, o, none⟩ = some (.int .i64 x)) (hy : w.cell? ⟨b', o', none⟩ = some (.int .i64 y)) (hbl : b < w.heap.size) (hbl' : b' < w.heap.size) (h1 : x < 10000) (h2 : y < 10000) (h3 : 0 < x) (h4 : 0 < y) (hca : 1 ≤ ca) (hca2 : ca ≤ 9223372036854775807) (hcb : 1 ≤ cb) (hcb2 : cb ≤ 9223372036854775807) :
    Calls Tryd.prog 84 #[.agg #[.bool na, .slice (some ⟨b, o, none⟩) 1 ca], .agg #[.bool nb, .slice (some ⟨b', o', none⟩) 1 cb]] w (DivRes x y w) := by
  have hmk := make1
  have hW := four_below w #[.bool na, .slice (some ⟨b, o, none⟩) 1 ca] #[.bool nb, .slice (some ⟨b', o', none⟩) 1 cb] #[.bool false, .slice none 0 0] #[.bool false, .slice none 0 0] 45 45 45 45
  have HW := Lib.hid hW
  have hcut := cut_one b' o' cb y _ ((hW.cell (p := ⟨b', o', none⟩) hbl').trans hy) (by simp; omega) h4 h2 hcb hcb2
  have HCut := Lib.hid hcut
  have HX := Lib.hid hx
  have HY := Lib.hid hy
  clear hW hcut hy hx
  go_enter Tryd.func84, Tryd.ntmps84
  go_wp2_with fail
  refine HCut.out.mono ?_
  rintro e w2 ⟨rfl, hb2⟩
  have hb3 := hb2.mono (B' := w.heap.size + 4) (by simp)
  have HB3 := Lib.hid hb3
  have p1 := (own4 hb3 1).1
  have q1 := (own4 hb3 1).2.1
  have hsz := (own4 hb3 0).2.2.2.2.2.2
  have g0 : w.heap.size < w2.heap.size := by omega
  have g1 : w.heap.size + 1 < w2.heap.size := by omega
  have g2 : w.heap.size + 1 + 1 < w2.heap.size := by omega
  have g3 : w.heap.size + 1 + 1 + 1 < w2.heap.size := by omega
  clear hb2 hb3
  simp only [List.getElem?_toArray, List.getElem?_cons_zero, List.getElem?_cons_succ] at p1 q1
  have hrow : ∀ W : World, Below (w2.heap.size + 2) ((w2.alloc (.cells #[.bool false, .slice (some ⟨b', o', none⟩) 1 cb] 45)).alloc (.cells #[.int .i64 0] 2)) W → W.cell? ⟨w2.heap.size, 0, none⟩ = some (.bool false) ∧ W.cell? ⟨w2.heap.size, 1, none⟩ = some (.slice (some ⟨b', o', none⟩) 1 cb) ∧ W.cell? ⟨w2.heap.size + 1, 0, none⟩ = some (.int .i64 0) ∧ W.frozen? ⟨w2.heap.size + 1, 0, none⟩ = false ∧ w2.heap.size + 1 < W.heap.size := fun W hb => ⟨(own2 hb 0).1, (own2 hb 1).1, (own2 hb 0).2.1, (own2 hb 0).2.2.2.1, (own2 hb 0).2.2.2.2⟩
  have HRow := Lib.hid hrow
  have HB22 : Hid (Below (w.heap.size + 4) _ ((w2.alloc (.cells #[.bool false, .slice (some ⟨b', o', none⟩) 1 cb] 45)).alloc (.cells #[.int .i64 0] 2))) := HB3.out.trans ((((Below.refl _ w2).alloc (Nat.le_refl _) _).alloc (by simp) _).mono (by omega))
  clear hrow
  go_upto_region 6 with fail
  go_cut [9] from 33 (fun p wx => ∃ B9 X cX, p = .pointer (some ⟨B9, 0, none⟩) ∧ cX ≤ 9223372036854775807 ∧ DV w2.heap.size (w2.heap.size + 1) B9 b' o' cb wx ∧ wx.cell? ⟨B9, 0, none⟩ = some (.bool false) ∧ wx.cell? ⟨B9, 1, none⟩ = some (.slice (some X) 0 cX) ∧ wx.cell? ⟨w2.heap.size + 1, 0, none⟩ = some (.int .i64 0) ∧ Below (w.heap.size + 4) ((((w.alloc (.cells #[.bool na, .slice (some ⟨b, o, none⟩) 1 ca] 45)).alloc (.cells #[.bool nb, .slice (some ⟨b', o', none⟩) 1 cb] 45)).alloc (.cells #[.bool false, .slice none 0 0] 45)).alloc (.cells #[.bool false, .slice none 0 0] 45)) wx)
  case first =>
    go_wp2_with fail
    all_goals
      try subst h
      refine (cut_no false _ _ _ (fun h => by cases h) (by omega)).mono ?_
      rintro e w3 ⟨rfl, hb4⟩
      have hb5 := hb4.mono (B' := w2.heap.size + 2) (by simp)
      obtain ⟨e0, e1, e2, e3, e4⟩ := HRow.out w3 hb5
      have HB33 : Hid (Below (w.heap.size + 4) _ w3) := HB22.out.trans (hb4.mono (by simp; omega))
      have hsw := HB33.out.size
      have HE := Lib.hid (And.intro e0 (And.intro e1 (And.intro e2 e3)))
      clear hb4 hb5 p1 q1 e0 e1 e2 e3
      go_wp2
      go_meet
      case rel =>
        obtain ⟨e0, e1, e2, e3⟩ := HE.out
        have f8 : w2.heap.size < w3.heap.size := by omega
        exact ⟨w3.heap.size, _, _, rfl, by omega, ⟨by simp [go_sem, e0, f8], by simp [go_sem, e1, f8], by simp [go_sem, e3, e4], by simp [go_sem], by simp [go_sem], by omega, e4, by simp⟩, by simp [go_sem], (World.cell?_alloc_new _ _ _ 1).trans rfl, by simp [go_sem, e2, e4], HB33.out.alloc (by simp at hsw; omega) _⟩
  case rest =>
    obtain ⟨B9, X, cX, rfl, hcX, hdv, r0, r1, d0, hbw⟩ := hcut
    have HDV := Lib.hid hdv
    have HR := Lib.hid (And.intro r0 (And.intro r1 d0))
    have HBW := Lib.hid hbw
    clear hdv r0 r1 d0 hbw p1 q1 HB22 HRow HB3 HCut
    go_wp2
    go_loopg [10] 2 (fun g i wr => DV w2.heap.size (w2.heap.size + 1) B9 b' o' cb wr ∧ Below (w.heap.size + 4) ((((w.alloc (.cells #[.bool na, .slice (some ⟨b, o, none⟩) 1 ca] 45)).alloc (.cells #[.bool nb, .slice (some ⟨b', o', none⟩) 1 cb] 45)).alloc (.cells #[.bool false, .slice none 0 0] 45)).alloc (.cells #[.bool false, .slice none 0 0] 45)) wr ∧ ((g = 2 ∧ i = .int .i64 0 ∧ wr.cell? ⟨B9, 0, none⟩ = some (.bool false) ∧ wr.cell? ⟨B9, 1, none⟩ = some (.slice (some X) 0 cX) ∧ wr.cell? ⟨w2.heap.size + 1, 0, none⟩ = some (.int .i64 0)) ∨ (g = 1 ∧ i = .int .i64 (-1) ∧ RestAt (w.heap.size + 4) B9 (x % y) wr ∧ wr.cell? ⟨w2.heap.size + 1, 0, none⟩ = some (.int .i64 ((x / y : Nat) : Int)))))
    case atStart => exact ⟨HDV.out, HBW.out, .inl ⟨rfl, rfl, HR.out⟩⟩
    case round =>
      clear HDV HBW HR
      obtain ⟨hdv, hbw, hcase⟩ := hrel
      have HDV := Lib.hid hdv
      have HBW := Lib.hid hbw
      have p1 := (own4 hbw 1).1
      have hszr := (own4 hbw 0).2.2.2.2.2.2
      have hxc := ((four_below w #[.bool na, .slice (some ⟨b, o, none⟩) 1 ca] #[.bool nb, .slice (some ⟨b', o', none⟩) 1 cb] #[.bool false, .slice none 0 0] #[.bool false, .slice none 0 0] 45 45 45 45).trans (hbw.mono (by omega))).cell (p := ⟨b, o, none⟩) hbl
      rw [HX.out] at hxc
      simp only [List.getElem?_toArray, List.getElem?_cons_zero, List.getElem?_cons_succ] at p1
      clear hbw
      rcases hcase with ⟨rfl, rfl, r0, r1, d0⟩ | ⟨rfl, rfl, hrest, d0⟩
      · go_wp2
        go_upto_region 10 with fail
        have hsz9 := hdv.l9
        have hl8 := hdv.l8
        have hl6 := hdv.l6
        have z0 := hdv.z90
        have z1 := hdv.z91
        have e9 : w.heap.size < wr.heap.size := by omega
        have n9 : w.heap.size ≠ B9 := by omega
        have hb0 : b < wr.heap.size := by omega
        go_cut [] from 40 to 86 (fun wx => ∃ C, wx.cell? ⟨C, 0, none⟩ = some (.int .i64 x) ∧ B9 < C ∧ C < wx.heap.size ∧ wx.cell? ⟨B9, 0, none⟩ = some (.bool false) ∧ wx.cell? ⟨B9, 1, none⟩ = some (.slice (some ⟨C, 0, none⟩) 1 1) ∧ wx.cell? ⟨w2.heap.size + 1, 0, none⟩ = some (.int .i64 0) ∧ Hid (DV w2.heap.size (w2.heap.size + 1) B9 b' o' cb wx ∧ Below (w.heap.size + 4) ((((w.alloc (.cells #[.bool na, .slice (some ⟨b, o, none⟩) 1 ca] 45)).alloc (.cells #[.bool nb, .slice (some ⟨b', o', none⟩) 1 cb] 45)).alloc (.cells #[.bool false, .slice none 0 0] 45)).alloc (.cells #[.bool false, .slice none 0 0] 45)) wx))
        case first =>
          clear hdv
          have HZ := Lib.hid (And.intro z0 (And.intro z1 (And.intro r0 (And.intro r1 d0))))
          go_region_with (first | (go_at_call 55; refine (cut_one wr.heap.size 0 1 x _ (by simp [go_sem]) (by simp) h3 h1 (by omega) (by omega)).mono ?_; rintro e w5 ⟨rfl, hb50⟩; have hb5 : Below (wr.heap.size + 1) (wr.alloc (.cells #[.int .i64 x] 2)) w5 := ((Below.refl _ _).drew).trans (hb50.mono (by simp)); have HQ5 := Lib.hid hb5; have c5 := (own1 hb5 0).1; have s5 := (own1 hb5 0).2.2; have hb6 : Below wr.heap.size wr w5 := ((Below.refl _ _).alloc (Nat.le_refl _) _).trans (hb5.mono (by omega)); have HB6 := Lib.hid hb6; have rr0 := (hb6.cell (p := ⟨B9, 0, none⟩) hsz9).trans HZ.out.2.2.1; have rr1 := (hb6.cell (p := ⟨B9, 1, none⟩) hsz9).trans HZ.out.2.2.2.1; have zz0 := (hb6.frozen (p := ⟨B9, 0, none⟩) hsz9).trans HZ.out.1; have zz1 := (hb6.frozen (p := ⟨B9, 1, none⟩) hsz9).trans HZ.out.2.1; have ss9 : B9 < w5.heap.size := (by omega); clear hb50 hb5 hb6))
          all_goals (try go_wp2_with fail)
          all_goals go_meet
          all_goals
            obtain ⟨t0, t1, t2, t3⟩ := store2 (.bool false) (.slice (some ⟨wr.heap.size, 0, none⟩) 1 1) rr0 rr1
            refine ⟨wr.heap.size, ?_, hsz9, ?_, t0, t1, ?_, ((HDV.out.keep HB6.out).set (by show w2.heap.size + 1 ≤ B9; omega) _).set (by show w2.heap.size + 1 ≤ B9; omega) _, ((HBW.out.trans (HB6.out.mono (by omega))).setCell (by show w.heap.size + 4 ≤ B9; omega) _).setCell (by show w.heap.size + 4 ≤ B9; omega) _⟩
            · rw [t2 _ _ (by omega)]; exact c5
            · rw [t3]; exact s5
            · rw [t2 _ _ (by omega)]; exact (HB6.out.cell (p := ⟨w2.heap.size + 1, 0, none⟩) (show w2.heap.size + 1 < wr.heap.size by omega)).trans HZ.out.2.2.2.2
        case rest =>
          clear HDV HBW hdv p1 hxc r0 r1 d0 z0 z1 hsz9 hb0 e9
          obtain ⟨C, cC, hC, hCs, r0, r1, d0, hdb⟩ := hcut
          have HDB := Lib.hid hdb
          obtain ⟨hdv, hbw⟩ := hdb
          have y0 := hdv.y0
          have y1 := hdv.y1
          have l9 := hdv.l9
          have HYc : Hid (wc.cell? ⟨b', o', none⟩ = some (.int .i64 y)) := ((((four_below w #[.bool na, .slice (some ⟨b, o, none⟩) 1 ca] #[.bool nb, .slice (some ⟨b', o', none⟩) 1 cb] #[.bool false, .slice none 0 0] #[.bool false, .slice none 0 0] 45 45 45 45).trans (hbw.mono (by omega))).cell (p := ⟨b', o', none⟩) hbl')).trans HY.out
          have hsw := hbw.size
          simp at hsw
          have HCC := Lib.hid (And.intro cC (And.intro r0 (And.intro r1 d0)))
          clear hdv hbw d0
          have hfar := far_11 false false C 0 b' o' 1 cb x y wc cC HYc.out hCs (by omega) h1 h2
          have HFar := Lib.hid hfar
          clear hfar
          go_wp2_with fail
          refine HFar.out.mono ?_
          rintro e w5 ⟨rfl, hb5⟩
          have HB5 := Lib.hid hb5
          clear hb5 r0 r1 y0 y1 cC
          by_cases hxy : x < y
          · have hcm : cmpN x y < 0 := by unfold cmpN; rw [if_pos hxy]; omega
            have e1 : x % y = x := Nat.mod_eq_of_lt hxy
            have e2 : x / y = 0 := Nat.div_eq_of_lt hxy
            have HG := Lib.hid (And.intro e1 e2)
            clear e1 e2
            go_wp2
            go_roundg 1
            case measure => omega
            case rel =>
              obtain ⟨cC, r0, r1, d0⟩ := HCC.out
              obtain ⟨hdv, hbw⟩ := HDB.out
              have c5 := (HB5.out.cell (p := ⟨C, 0, none⟩) hCs).trans cC
              have s5 := Nat.lt_of_lt_of_le hCs HB5.out.size
              refine ⟨hdv.keep HB5.out, hbw.trans (HB5.out.mono (by omega)), .inr ⟨rfl, rfl, ?_, ?_⟩⟩
              · rw [HG.out.1]
                have hz := zval_one (lo := w.heap.size + 4) (neg := false) c5 (by omega) s5 h3 h1 (Nat.le_refl 1) (by omega)
                refine ⟨some ⟨C, 0, none⟩, 1, (HB5.out.cell (p := ⟨B9, 0, none⟩) l9).trans r0, ?_, ?_⟩
                · rw [limbs_one_digit h3 h1]; exact (HB5.out.cell (p := ⟨B9, 1, none⟩) l9).trans r1
                · rw [limbs_one_digit h3 h1]; exact hz
              · rw [HG.out.2]
                exact (HB5.out.cell (p := ⟨w2.heap.size + 1, 0, none⟩) (show w2.heap.size + 1 < wc.heap.size by omega)).trans d0
          · have hcm : 0 ≤ cmpN x y := by unfold cmpN; rw [if_neg hxy]; split <;> omega
            have q1 : 1 ≤ x / y := (quo_mid h4).1 (by omega)
            have q2 : x / y ≤ 9999 := by have := Nat.div_le_self x y; omega
            obtain ⟨cC, r0, r1, d0⟩ := HCC.out
            obtain ⟨hdv, hbw⟩ := HDB.out
            have c5 := (HB5.out.cell (p := ⟨C, 0, none⟩) hCs).trans cC
            have s5 := Nat.lt_of_lt_of_le hCs HB5.out.size
            have rr0 := (HB5.out.cell (p := ⟨B9, 0, none⟩) l9).trans r0
            have rr1 := (HB5.out.cell (p := ⟨B9, 1, none⟩) l9).trans r1
            have dd0 := (HB5.out.cell (p := ⟨w2.heap.size + 1, 0, none⟩) (show w2.heap.size + 1 < wc.heap.size by omega)).trans d0
            have HYy : Hid (w5.cell? ⟨b', o', none⟩ = some (.int .i64 y)) := (HB5.out.cell (p := ⟨b', o', none⟩) (show b' < wc.heap.size by omega)).trans HYc.out
            have hdv5 := hdv.keep HB5.out
            have hbw5 := hbw.trans (HB5.out.mono (by omega))
            have HF := Lib.hid (And.intro c5 (And.intro rr0 (And.intro rr1 (And.intro dd0 (And.intro hdv5 hbw5)))))
            have s59 := hdv5.l9
            have hsw5 := hbw5.size
            simp at hsw5
            clear cC r0 r1 d0 hdv hbw c5 rr0 rr1 dd0 hdv5 hbw5 HCC HDB HB5 HYc HFar
            go_wp2
            go_loopg [11, 12] (9998) (fun g l h wi => ∃ lo hi : Nat, l = .int .i64 lo ∧ h = .int .i64 hi ∧ 1 ≤ lo ∧ lo ≤ x / y ∧ x / y ≤ hi ∧ hi ≤ 9999 ∧ g + lo = hi ∧ Hid (Below w5.heap.size w5 wi))
            case atStart => exact ⟨1, 9999, rfl, rfl, Nat.le_refl _, q1, q2, Nat.le_refl _, rfl, Below.refl _ _⟩
            case round =>
              obtain ⟨lo, hi, rfl, rfl, l1, l2, l3, l4, l5, HBi⟩ := hrel
              have s6 := HBi.out.size
              have c6 := (HBi.out.cell (p := ⟨C, 0, none⟩) s5).trans HF.out.1
              have r60 := (HBi.out.cell (p := ⟨B9, 0, none⟩) s59).trans HF.out.2.1
              have r61 := (HBi.out.cell (p := ⟨B9, 1, none⟩) s59).trans HF.out.2.2.1
              have y60 := (HBi.out.cell (p := ⟨w2.heap.size, 0, none⟩) (show w2.heap.size < w5.heap.size by omega)).trans HF.out.2.2.2.2.1.y0
              have y61 := (HBi.out.cell (p := ⟨w2.heap.size, 1, none⟩) (show w2.heap.size < w5.heap.size by omega)).trans HF.out.2.2.2.2.1.y1
              have cy6 := (HBi.out.cell (p := ⟨b', o', none⟩) (show b' < w5.heap.size by omega)).trans HYy.out
              have t9 : B9 < wr.heap.size := by omega
              have t6 : w2.heap.size < wr.heap.size := by omega
              have tC : C < wr.heap.size := by omega
              have tb : b' < wr.heap.size := by omega
              have HK := Lib.hid (And.intro c6 (And.intro r60 (And.intro r61 (And.intro y60 (And.intro y61 cy6)))))
              clear c6 cy6
              by_cases hlt : lo < hi
              · have m0 : (0 : Int) ≤ ((lo : Int) + (hi : Int) + 1) / 2 := by omega
                have m1 : ((lo : Int) + (hi : Int) + 1) / 2 < 10000 := by omega
                have m2 : (lo : Int) < ((lo : Int) + (hi : Int) + 1) / 2 := by omega
                have m3 : ((lo : Int) + (hi : Int) + 1) / 2 ≤ (hi : Int) := by omega
                go_upto_region 16 with fail
                generalize hM : ((lo : Int) + (hi : Int) + 1) / 2 = M at *
                clear hM
                go_cut [72] from 58 to 75 (fun c wx => c = .bool (decide (y * M.toNat ≤ x)) ∧ Below wr.heap.size wr wx)
                case first =>
                  have hprod : y * M.toNat < 100000000 := by
                    have := Nat.mul_le_mul (show y ≤ 9999 by omega) (show M.toNat ≤ 9999 by omega)
                    omega
                  go_region_with (first | (go_at_call 43; refine (zof_nat M _ m0 m1).mono ?_; rintro e wA ⟨vA, rfl, hvA, hbA0⟩; have hbA : Below wr.heap.size wr wA := ((Below.refl _ wr).drew).trans hbA0; have HVA := Lib.hid hvA; have HBA := Lib.hid hbA; have ya0 := (hbA.cell (p := ⟨w2.heap.size, 0, none⟩) t6).trans HK.out.2.2.2.1; have ya1 := (hbA.cell (p := ⟨w2.heap.size, 1, none⟩) t6).trans HK.out.2.2.2.2.1; have ra0 := (hbA.cell (p := ⟨B9, 0, none⟩) t9).trans HK.out.2.1; have ra1 := (hbA.cell (p := ⟨B9, 1, none⟩) t9).trans HK.out.2.2.1; clear hvA hbA hbA0) | (go_at_call 82; refine (mul_any false false y M.toNat _ vA _ (zval_one ((HBA.out.cell (p := ⟨b', o', none⟩) tb).trans HK.out.2.2.2.2.2) (Nat.zero_le _) (Nat.lt_of_lt_of_le tb HBA.out.size) h4 h2 hcb hcb2) HVA.out h2 (by omega) (by omega)).mono ?_; rintro e wB ⟨vB, rfl, hvB, hbB0⟩; have hbB : Below wr.heap.size wr wB := HBA.out.trans (hbB0.mono HBA.out.size); have HVB := Lib.hid hvB; have HBB := Lib.hid hbB; have rb0 := (hbB.cell (p := ⟨B9, 0, none⟩) t9).trans HK.out.2.1; have rb1 := (hbB.cell (p := ⟨B9, 1, none⟩) t9).trans HK.out.2.2.1; clear hvB hbB hbB0) | (go_at_call 85; refine (far_any _ 0 _ false (y * M.toNat) x vB _ _ HVB.out (zval_one ((HBB.out.cell (p := ⟨C, 0, none⟩) tC).trans HK.out.1) (Nat.zero_le _) (Nat.lt_of_lt_of_le tC HBB.out.size) h3 h1 (Nat.le_refl 1) (by omega)) hprod (by omega) (.inr h1)).mono ?_; rintro e wD ⟨rfl, hbD0⟩; have HBD : Hid (Below wr.heap.size wr wD) := HBB.out.trans (hbD0.mono HBB.out.size); clear hbD0))
                  all_goals (try go_wp2_with fail)
                  all_goals go_meet
                  all_goals exact ⟨congrArg Value.bool cmpN_le, HBD.out⟩
                case rest =>
                  obtain ⟨hcu, hbc⟩ := hcut
                  have HBN : Hid (Below w5.heap.size w5 wc) := HBi.out.trans (hbc.mono s6)
                  clear hbc y60 y61 r60 r61
                  by_cases hle : y * M.toNat ≤ x
                  · rw [decide_eq_true hle] at hcu
                    subst hcu
                    have hq : M.toNat ≤ x / y := (quo_mid h4).1 hle
                    go_wp2
                    go_roundg (hi - M.toNat)
                    case measure => omega
                    case rel => exact ⟨M.toNat, hi, by congr 1; omega, rfl, by omega, hq, l3, l4, by omega, HBN.out⟩
                  · rw [decide_eq_false hle] at hcu
                    subst hcu
                    have hq : ¬ M.toNat ≤ x / y := fun h => hle ((quo_mid h4).2 h)
                    go_wp2
                    go_roundg (M.toNat - 1 - lo)
                    case measure => omega
                    case rel => exact ⟨lo, M.toNat - 1, rfl, by congr 1; omega, l1, l2, by omega, by omega, by omega, HBN.out⟩
              · obtain rfl : lo = hi := by omega
                have hlq : lo = x / y := by omega
                have HLQ := Lib.hid hlq
                have hdv6 := HF.out.2.2.2.2.1.keep HBi.out
                have hbw6 := HF.out.2.2.2.2.2.trans (HBi.out.mono (by omega))
                have d6 := (HBi.out.cell (p := ⟨w2.heap.size + 1, 0, none⟩) (show w2.heap.size + 1 < w5.heap.size by omega)).trans HF.out.2.2.2.1
                have z6 := hdv6.z8
                have t8 : w2.heap.size + 1 < wr.heap.size := by omega
                have hK := HK.out
                have hst : ∀ bb oo, bb ≠ w2.heap.size + 1 → (wr.setCell ⟨w2.heap.size + 1, 0, none⟩ (.int .i64 lo)).cell? ⟨bb, oo, none⟩ = wr.cell? ⟨bb, oo, none⟩ := fun bb oo h => World.cell?_of_block (Below.heap_setCell _ _ _ _ h)
                have hnew : (wr.setCell ⟨w2.heap.size + 1, 0, none⟩ (.int .i64 lo)).cell? ⟨w2.heap.size + 1, 0, none⟩ = some (.int .i64 lo) := by simp [go_sem, d6]
                have hss : (wr.setCell ⟨w2.heap.size + 1, 0, none⟩ (.int .i64 lo)).heap.size = wr.heap.size := by simp [World.setCell]
                have HS := Lib.hid (And.intro hst (And.intro hnew (And.intro hss (And.intro (hdv6.set (a := ⟨w2.heap.size + 1, 0, none⟩) (Nat.le_refl _) (.int .i64 lo)) (hbw6.setCell (p := ⟨w2.heap.size + 1, 0, none⟩) (show w.heap.size + 4 ≤ w2.heap.size + 1 by omega) (.int .i64 lo))))))
                clear hst hnew hss hdv6 hbw6 hK hlq y60 y61 r60 r61
                go_upto_region 20 with fail
                generalize wr.setCell ⟨w2.heap.size + 1, 0, none⟩ (.int .i64 lo) = w6 at *
                have c6 := (HS.out.1 C 0 (by omega)).trans HK.out.1
                have r60 := (HS.out.1 B9 0 (by omega)).trans HK.out.2.1
                have r61 := (HS.out.1 B9 1 (by omega)).trans HK.out.2.2.1
                have y60 := (HS.out.1 w2.heap.size 0 (by omega)).trans HK.out.2.2.2.1
                have y61 := (HS.out.1 w2.heap.size 1 (by omega)).trans HK.out.2.2.2.2.1
                have cy6 := (HS.out.1 b' o' (by omega)).trans HK.out.2.2.2.2.2
                have hs6 := HS.out.2.2.1
                have t9' : B9 < w6.heap.size := by omega
                have t6' : w2.heap.size < w6.heap.size := by omega
                have tC' : C < w6.heap.size := by omega
                have tb' : b' < w6.heap.size := by omega
                have HK6 := Lib.hid (And.intro c6 (And.intro r60 (And.intro r61 (And.intro y60 (And.intro y61 cy6)))))
                clear c6 cy6 d6 z6
                have hyl : y * lo ≤ x := by rw [HLQ.out]; exact Nat.mul_div_le x y
                have hyl0 : 0 < y * lo := Nat.mul_pos h4 (by omega)
                go_region_with (first | (go_at_call 43; refine (zof_nat (lo : Int) _ (by omega) (by omega)).mono ?_; rintro e wA ⟨vA, rfl, hvA, hbA0⟩; have hbA : Below w6.heap.size w6 wA := ((Below.refl _ w6).drew).trans hbA0; have HVA := Lib.hid hvA; have HBA := Lib.hid hbA; have ya0 := (hbA.cell (p := ⟨w2.heap.size, 0, none⟩) t6').trans HK6.out.2.2.2.1; have ya1 := (hbA.cell (p := ⟨w2.heap.size, 1, none⟩) t6').trans HK6.out.2.2.2.2.1; have ra0 := (hbA.cell (p := ⟨B9, 0, none⟩) t9').trans HK6.out.2.1; have ra1 := (hbA.cell (p := ⟨B9, 1, none⟩) t9').trans HK6.out.2.2.1; clear hvA hbA hbA0) | (go_at_call 82; refine (mul_any false false y lo _ vA _ (zval_one ((HBA.out.cell (p := ⟨b', o', none⟩) tb').trans HK6.out.2.2.2.2.2) (Nat.zero_le _) (Nat.lt_of_lt_of_le tb' HBA.out.size) h4 h2 hcb hcb2) (by exact HVA.out) h2 (by omega) (by omega)).mono ?_; rintro e wB ⟨vB, rfl, hvB, hbB0⟩; have hbB : Below w6.heap.size w6 wB := HBA.out.trans (hbB0.mono HBA.out.size); have HVB := Lib.hid hvB; have HBB := Lib.hid hbB; have rb0 := (hbB.cell (p := ⟨B9, 0, none⟩) t9').trans HK6.out.2.1; have rb1 := (hbB.cell (p := ⟨B9, 1, none⟩) t9').trans HK6.out.2.2.1; clear hvB hbB hbB0) | (go_at_call 87; refine (neg_any (false != false) (y * lo) vB _ (HVB.out.low (Nat.zero_le _)) hyl0).mono ?_; rintro e wD ⟨vD, rfl, hvD, hbD0⟩; have hbD : Below w6.heap.size w6 wD := HBB.out.trans (hbD0.mono HBB.out.size); have hvD2 : ZVal 0 true (y * lo) wD vD := hvD; obtain ⟨bD, oD, cD, rfl, cellD, -, blD, capD, capD2⟩ := one_digit hvD2 hyl0 (by omega); have HVD := Lib.hid (And.intro cellD (And.intro blD (And.intro capD capD2))); have HBD := Lib.hid hbD; have rd0 := (hbD.cell (p := ⟨B9, 0, none⟩) t9').trans HK6.out.2.1; have rd1 := (hbD.cell (p := ⟨B9, 1, none⟩) t9').trans HK6.out.2.2.1; clear hvD hvD2 hbD hbD0 cellD blD capD capD2) | (go_at_call 86; refine (sub_11 C 0 bD oD 1 cD x (y * lo) _ ((HBD.out.cell (p := ⟨C, 0, none⟩) tC').trans HK6.out.1) HVD.out.1 (Nat.lt_of_lt_of_le tC' HBD.out.size) HVD.out.2.1 h1 hyl hyl0 (Nat.le_refl 1) HVD.out.2.2.1 (by omega) HVD.out.2.2.2).mono ?_; rintro e wE ⟨vE, rfl, hvE, hbE0⟩; obtain ⟨aE, kE, hvE2, hdE⟩ := hvE; rw [Bool.false_and] at hvE2; subst hvE2; have hbE : Below w6.heap.size w6 wE := HBD.out.trans (hbE0.mono HBD.out.size); have HDE := Lib.hid hdE; have HBE := Lib.hid hbE; have re0 := (hbE.cell (p := ⟨B9, 0, none⟩) t9').trans HK6.out.2.1; have re1 := (hbE.cell (p := ⟨B9, 1, none⟩) t9').trans HK6.out.2.2.1; have hdvE := HS.out.2.2.2.1.keep hbE; have ze0 := hdvE.z90; have ze1 := hdvE.z91; have se9 := hdvE.l9; clear hdE hbE hbE0 hdvE))
                all_goals
                  have hmod : x - y * lo = x % y := by rw [HLQ.out, Nat.mod_eq_sub_mul_div]
                  rw [hmod] at *
                  clear hmod
                  go_wp2
                  go_roundg 1
                  case measure => omega
                  case rel =>
                    obtain ⟨t0, t1, t2, t3⟩ := store2 (.bool false) (.slice aE (limbs (x % y)).length kE) re0 re1
                    have dE := (HBE.out.cell (p := ⟨w2.heap.size + 1, 0, none⟩) (show w2.heap.size + 1 < w6.heap.size by omega)).trans HS.out.2.1
                    have sE := HBE.out.size
                    have sD := HBD.out.size
                    refine ⟨((HS.out.2.2.2.1.keep HBE.out).set (by show w2.heap.size + 1 ≤ B9; omega) _).set (by show w2.heap.size + 1 ≤ B9; omega) _, ((HS.out.2.2.2.2.trans (HBE.out.mono (by omega))).setCell (by show w.heap.size + 4 ≤ B9; omega) _).setCell (by show w.heap.size + 4 ≤ B9; omega) _, .inr ⟨rfl, rfl, ⟨aE, kE, t0, t1, aE, kE, by simp, ?_⟩, ?_⟩⟩
                    · have hdE := HDE.out
                      have hmod2 : x - y * lo = x % y := by rw [HLQ.out, Nat.mod_eq_sub_mul_div]
                      rw [hmod2] at hdE
                      exact ((hdE.set (a := ⟨B9, 0, none⟩) (show B9 < wD.heap.size by omega) _).set (a := ⟨B9, 1, none⟩) (show B9 < wD.heap.size by omega) _).low (by omega)
                    · rw [t2 _ _ (by omega), ← HLQ.out]; exact dE
      · obtain ⟨ra, rc, r0, r1, hzr⟩ := hrest
        have HZR := Lib.hid hzr
        have hdl9 := hdv.l9
        have hdl8 := hdv.l8
        have hq : x / y < 10000 := by have := Nat.div_le_self x y; omega
        have HR0 := Lib.hid (And.intro r0 (And.intro r1 d0))
        have HU := Lib.hid (own4 HBW.out 0)
        have HU1 := Lib.hid (own4 HBW.out 1)
        clear hzr hdv r0 d0 p1 hxc
        have r0 := HR0.out.1
        go_wp2
        go_region_with (first | (go_at_call 55; refine (cut_q (w2.heap.size + 1) 0 1 (x / y) wr.drew HR0.out.2.2 (show w2.heap.size + 1 < wr.heap.size by omega) hq (Nat.le_refl 1) (by omega)).mono ?_; rintro e wA ⟨rfl, hbA0⟩; have hbA : Below wr.heap.size wr wA := ((Below.refl _ wr).drew).trans hbA0; have HBA := Lib.hid hbA; have ra0 := (hbA.cell (p := ⟨B9, 0, none⟩) hdl9).trans HR0.out.1; have ra1 := (hbA.cell (p := ⟨B9, 1, none⟩) hdl9).trans HR0.out.2.1; have u0 := (hbA.cell (p := ⟨w.heap.size + 1 + 1, 0, none⟩) (show w.heap.size + 1 + 1 < _ by omega)).trans HU.out.2.2.1; have u1 := (hbA.cell (p := ⟨w.heap.size + 1 + 1, 1, none⟩) (show w.heap.size + 1 + 1 < _ by omega)).trans HU1.out.2.2.1; have u2 := (hbA.cell (p := ⟨w.heap.size + 1 + 1 + 1, 0, none⟩) (show w.heap.size + 1 + 1 + 1 < _ by omega)).trans HU.out.2.2.2.1; have u3 := (hbA.cell (p := ⟨w.heap.size + 1 + 1 + 1, 1, none⟩) (show w.heap.size + 1 + 1 + 1 < _ by omega)).trans HU1.out.2.2.2.1; have v0 := (hbA.frozen (p := ⟨w.heap.size + 1 + 1, 0, none⟩) (show w.heap.size + 1 + 1 < _ by omega)).trans HU.out.2.2.2.2.1; have v1 := (hbA.frozen (p := ⟨w.heap.size + 1 + 1, 1, none⟩) (show w.heap.size + 1 + 1 < _ by omega)).trans HU1.out.2.2.2.2.1; have v2 := (hbA.frozen (p := ⟨w.heap.size + 1 + 1 + 1, 0, none⟩) (show w.heap.size + 1 + 1 + 1 < _ by omega)).trans HU.out.2.2.2.2.2.1; have v3 := (hbA.frozen (p := ⟨w.heap.size + 1 + 1 + 1, 1, none⟩) (show w.heap.size + 1 + 1 + 1 < _ by omega)).trans HU1.out.2.2.2.2.2.1; have k2 : w.heap.size + 1 + 1 < wA.heap.size := (Nat.lt_of_lt_of_le (show w.heap.size + 1 + 1 < wr.heap.size by omega) hbA.size); have k3 : w.heap.size + 1 + 1 + 1 < wA.heap.size := (Nat.lt_of_lt_of_le (show w.heap.size + 1 + 1 + 1 < wr.heap.size by omega) hbA.size); simp only [List.getElem?_toArray, List.getElem?_cons_zero, List.getElem?_cons_succ] at u0 u1 u2 u3; clear hbA hbA0))
        all_goals
          go_wp2
          have HF0 : Below w.heap.size w wA := (four_below w _ _ _ _ _ _ _ _).trans ((HBW.out.trans (HBA.out.mono (by omega))).mono (by omega))
          refine bodyPost_ret (v := .tuple #[.agg #[.bool false, .slice (some ⟨w2.heap.size + 1, 0, none⟩) (limbs (x / y)).length 1], .agg #[.bool false, .slice ra (limbs (x % y)).length rc]]) (by simp [results, Tryd.results84, go_sem, u0, u1, u2, u3]) rfl ⟨_, _, rfl, ?_, ?_, ?_⟩
          · exact ((((zval_q (lo := w.heap.size + 4) ((HBA.out.cell (p := ⟨w2.heap.size + 1, 0, none⟩) (show w2.heap.size + 1 < wr.heap.size by omega)).trans HR0.out.2.2) (by omega) (Nat.lt_of_lt_of_le (show w2.heap.size + 1 < wr.heap.size by omega) HBA.out.size) hq (Nat.le_refl 1) (by omega)).set (show w.heap.size + 1 + 1 < w.heap.size + 4 by omega) _).set (show w.heap.size + 1 + 1 < w.heap.size + 4 by omega) _).set (show w.heap.size + 1 + 1 + 1 < w.heap.size + 4 by omega) _).set (show w.heap.size + 1 + 1 + 1 < w.heap.size + 4 by omega) _ |>.low (by omega)
          · exact ((((HZR.out.keep HBA.out).set (show w.heap.size + 1 + 1 < w.heap.size + 4 by omega) _).set (show w.heap.size + 1 + 1 < w.heap.size + 4 by omega) _).set (show w.heap.size + 1 + 1 + 1 < w.heap.size + 4 by omega) _).set (show w.heap.size + 1 + 1 + 1 < w.heap.size + 4 by omega) _ |>.low (by omega)
          · exact (((HF0.setCell (by show w.heap.size ≤ w.heap.size + 1 + 1; omega) _).setCell (by show w.heap.size ≤ w.heap.size + 1 + 1; omega) _).setCell (by show w.heap.size ≤ w.heap.size + 1 + 1 + 1; omega) _).setCell (by show w.heap.size ≤ w.heap.size + 1 + 1 + 1; omega) _

/-- Quotient and rest of two integers of at most one digit, the second one not 0. -/
theorem div_any (na nb : Bool) (x y : Nat) (va vb : Value) (w : World) (ha : ZVal 0 na x w va) (hb : ZVal 0 nb y w vb) (hx : x < 10000) (hy : y < 10000) (hy0 : 0 < y) :
    Calls Tryd.prog 84 #[va, vb] w (DivRes x y w) := by
  obtain ⟨b', o', cb, rfl, c2, -, b2, k1, k2⟩ := one_digit hb hy0 hy
  by_cases h0 : x = 0
  · subst h0
    obtain ⟨ao, ca, rfl, k3, k4⟩ := no_digit ha
    exact div_0 nb b' o' ca cb y ao w c2 b2 hy hy0 k3 k4 k1 k2
  · obtain ⟨b, o, ca, rfl, c1, -, b1, k3, k4⟩ := one_digit ha (by omega) hx
    exact div_1 na nb b o b' o' ca cb x y w c1 c2 b1 b2 hx hy (by omega) hy0 k3 k4 k1 k2

end Go.Proofs.YthmjcjoecelnmaaDoor
