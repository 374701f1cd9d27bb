/-
  l01DrawSmall by its contract: some short text without a newline.
-/
import Derived.Test.YthmjcjoecelnmaaDoorFe
import Derived.Test.YthmjcjoecelnmaaDoorFh
import Derived.Test.YthmjcjoecelnmaaDoorTa
import Derived.Test.YthmjcjoecelnmaaDoorPa
namespace Go.Proofs.YthmjcjoecelnmaaDoor
open Go.RowKit
set_option linter.unusedVariables false

/-- What a draw of a text does. -/
def DrawnL (p A K : Nat) (w : World) (e : Ending) (w' : World) : Prop :=
  ∃ a, Cl K a ∧ e = .returned (.string ⟨a.toArray⟩) ∧ SrcAt p A w' ∧ Beside p w w'

theorem SrcAt.below {p A : Nat} {w w' : World} (h : SrcAt p A w) (hb : Below w.heap.size w w') : SrcAt p A w' := h.keep (hb.mono (Nat.succ_le_of_lt h.lt))
theorem Beside.step {p : Nat} {w a b : World} (h : Beside p w a) (hb : Below a.heap.size a b) : Beside p w b := h.trans (.of hb)

theorem DAt.beside {p lo : Nat} {w w' : World} {ao : Option Addr} {cap : Nat} {ds : List Int} (h : DAt lo w ao cap ds) (hp : p < lo) (hb : Beside p w w') : DAt lo w' ao cap ds := by
  refine ⟨fun h0 => ?_, h.nil, h.len, h.cap⟩
  obtain ⟨b, o, e, l, hlt, hc⟩ := h.row h0
  exact ⟨b, o, e, l, Nat.lt_of_lt_of_le hlt hb.size, fun t ht => (hb.cell (a := ⟨b, o + t, none⟩) hlt (show b ≠ p by omega)).trans (hc t ht)⟩
theorem QVal.beside {p lo : Nat} {neg : Bool} {n d : Nat} {w w' : World} {v : Value} (h : QVal lo neg n d w v) (hp : p < lo) (hb : Beside p w w') : QVal lo neg n d w' v := by
  obtain ⟨ao, cap, bo, cbp, rfl, hd, he⟩ := h
  exact ⟨ao, cap, bo, cbp, rfl, hd.beside hp hb, he.beside hp hb⟩
theorem QVal.keep {lo : Nat} {neg : Bool} {n d : Nat} {w w' : World} {v : Value} (h : QVal lo neg n d w v) (hb : Below w.heap.size w w') : QVal lo neg n d w' v := by
  obtain ⟨ao, cap, bo, cbp, rfl, hd, he⟩ := h
  exact ⟨ao, cap, bo, cbp, rfl, hd.keep hb, he.keep hb⟩

theorem zdig_cl (n : Nat) (h : n < 10000) : Cl 5 (zdig (limbs n)) := by
  have h1 := zdig_length (limbs n)
  have h2 := limbs_length 1 n (by omega)
  refine ⟨fun hm => ?_, by omega⟩
  rw [zdig_limbs] at hm
  have := (dec_clean n 10 hm).1
  simp at this

theorem textQ_cl (ng : Bool) (n m : Nat) (hn : n < 10000) (hm : m < 10000) : Cl 12 (textQ ng (limbs n) (limbs m)) := by
  unfold textQ
  have h1 : Cl 1 (if ng then [45] else [] : List UInt8) := by cases ng <;> simp [Cl]
  have h2 : Cl 6 (if isOne (limbs m) then [] else 47 :: zdig (limbs m)) := by
    have h3 := zdig_cl m hm
    split
    · simp [Cl]
    · exact ⟨by simp [h3.1], by have := h3.2; simp; omega⟩
  exact (h1.app (zdig_cl n hn)).app h2

theorem itoa_cl (x : Int) (h0 : -10000 < x) (h1 : x < 10000) : Cl 12 (Lib.itoa x) := by
  rw [← textQ_int]
  exact textQ_cl _ _ _ (by omega) (by omega)

theorem textW_any (v : Value) (lo : Nat) (w : World) (h : QW lo w v) :
    Calls Tryd.prog 23 #[v] w fun e w' => (∃ a, Cl 12 a ∧ e = .returned (.string ⟨a.toArray⟩)) ∧ Below w.heap.size w w' := by
  obtain ⟨ng, ao, n, ca, bo, m, cb, rfl, hd, he, hn, hm⟩ := h
  have l1 := limbs_length 1 n (by omega)
  have l2 := limbs_length 1 m (by omega)
  refine (text_any ng false ao bo (limbs n) (limbs m) ca cb w (hd.low (Nat.zero_le _)) (he.low (Nat.zero_le _)) (by omega) (by omega) (limbs_bound n) (limbs_bound m)).mono ?_
  rintro e w' ⟨rfl, hb⟩
  exact ⟨⟨_, textQ_cl ng n m hn hm, rfl⟩, hb⟩

set_option maxRecDepth 100000 in
set_option maxHeartbeats 1000000 in
theorem small_any (p A : Nat) (w : World) (hs : SrcAt p A w) (hA : A ≤ 90000) :
    Calls Tryd.prog 63 #[.pointer (some ⟨p, 0, none⟩)] w (DrawnL p (A + 3) 12 w) := by
  have HS := Lib.hid hs
  clear hs
  go_enter Tryd.func63, Tryd.ntmps63
  go_wp2_with fail
  refine (pick_any p A 19 _ HS.out (by omega) (by omega) (by omega)).mono ?_
  rintro e w1 ⟨z, rfl, z0, z1, hs1, hb1⟩
  have HS1 := Lib.hid hs1
  have HB1 := Lib.hid hb1
  clear hs1 hb1
  go_wp2_with fail
  refine (one_any p (A + 1) 3 _ HS1.out (by omega) (by omega) (by omega)).mono ?_
  rintro e w2 ⟨b, rfl, hs2, hb2⟩
  have HS2 := Lib.hid hs2
  have HB2 : Hid (Beside p w w2) := HB1.out.trans hb2
  clear hs2 hb2
  generalize hX : z - 9 = X at *
  have x0 : -9 ≤ X := by omega
  have x1 : X ≤ 9 := by omega
  clear hX z0 z1
  cases b
  · go_wp2_with fail
    refine (int_any X _ (by omega) (by omega)).mono ?_
    rintro e w3 ⟨v, rfl, hq3, hb3⟩
    have HQ3 := Lib.hid hq3
    have HS3 := Lib.hid (HS2.out.below hb3)
    have HB3 := Lib.hid (HB2.out.step hb3)
    clear hq3 hb3
    go_wp2_with fail
    refine (textInt_any X _ v (qval_low HQ3.out (Nat.zero_le _)) (by omega) (by omega)).mono ?_
    rintro e w4 ⟨rfl, hb4⟩
    have HS4 := Lib.hid (HS3.out.below hb4)
    have HB4 := Lib.hid (HB3.out.step hb4)
    clear hb4
    have HI := Lib.hid (itoa_cl X (by omega) (by omega))
    generalize Lib.itoa X = s at *
    go_wp2
    go_ret
    exact ⟨s, HI.out, rfl, HS4.out.more (by omega), HB4.out⟩
  · go_wp2_with fail
    refine (int_any X _ (by omega) (by omega)).mono ?_
    rintro e w3 ⟨v, rfl, hq3, hb3⟩
    have HQ3 := Lib.hid hq3
    have HS3 := Lib.hid (HS2.out.below hb3)
    have HB3 := Lib.hid (HB2.out.step hb3)
    have hp3 : p < w2.heap.size := HS2.out.lt
    clear hq3 hb3
    go_wp2_with fail
    refine (pick_any p (A + 2) 6 _ (HS3.out.more (by omega)) (by omega) (by omega) (by omega)).mono ?_
    rintro e w4 ⟨y, rfl, y0, y1, hs4, hb4⟩
    have HS4 := Lib.hid hs4
    have HQ4 := Lib.hid (HQ3.out.beside hp3 hb4)
    have HB4 := Lib.hid (HB3.out.trans hb4)
    clear hs4 hb4
    go_wp2_with fail
    refine (int_any (1 + y) _ (by omega) (by omega)).mono ?_
    rintro e w5 ⟨u, rfl, hq5, hb5⟩
    have HQ5 := Lib.hid hq5
    have HQ45 := Lib.hid (HQ4.out.keep hb5)
    have HS5 := Lib.hid (HS4.out.below hb5)
    have HB5 := Lib.hid (HB4.out.step hb5)
    clear hq5 hb5
    go_wp2_with fail
    refine (divQ_any div_any (decide (X < 0)) (decide (1 + y < 0)) X.natAbs (1 + y).natAbs v u _ (qval_low HQ45.out (Nat.zero_le _)) (qval_low HQ5.out (Nat.zero_le _)) (by omega) (by omega) (by omega)).mono ?_
    rintro e w6 ⟨q, rfl, hq6, hb6⟩
    have HQ6 := Lib.hid hq6
    have HS6 := Lib.hid (HS5.out.below hb6)
    have HB6 := Lib.hid (HB5.out.step hb6)
    clear hq6 hb6
    go_wp2_with fail
    refine (textW_any q _ _ HQ6.out).mono ?_
    rintro e w7 ⟨⟨s, hc, rfl⟩, hb7⟩
    have HC := Lib.hid hc
    have HS7 := Lib.hid (HS6.out.below hb7)
    have HB7 := Lib.hid (HB6.out.step hb7)
    clear hc hb7
    go_wp2
    go_ret
    exact ⟨s, HC.out, rfl, HS7.out.more (by omega), HB7.out⟩

end Go.Proofs.YthmjcjoecelnmaaDoor
