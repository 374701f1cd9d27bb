/-
  l11DrawLine by its contract: some line of at most 120 bytes without a newline.
-/
import Derived.Test.YthmjcjoecelnmaaDoorTg
namespace Go.Proofs.YthmjcjoecelnmaaDoor
open Go.RowKit
set_option linter.unusedVariables false

def names7 : List (List UInt8) := [[97], [98], [99], [110, 101, 119], [120], [102, 105, 98], [81]]
theorem names7_cl : ∀ a ∈ names7, Cl 3 a := by simp [names7, Cl]
def lines13 : List (List UInt8) := [[], [119, 104, 97, 116], [108, 101, 116], [108, 101, 116, 32, 97], [108, 101, 116, 32, 97, 32, 49, 59, 50, 32, 51], [116, 101, 114, 109, 115, 32, 97], [116, 101, 114, 109, 115, 32, 97, 32, 120], [97, 100, 100, 32, 97], [100, 114, 111, 112], [115, 104, 111, 119], [115, 97, 109, 101, 32, 97], [103, 114, 111, 119, 115], [116, 101, 114, 109, 115, 32, 32, 97, 32, 51]]
theorem lines13_cl : ∀ a ∈ lines13, Cl 11 a := by simp [lines13, Cl]
def ops3 : List (List UInt8) := [[97, 100, 100, 32], [109, 117, 108, 32], [99, 111, 110, 118, 32]]
theorem ops3_cl : ∀ a ∈ ops3, Cl 5 a := by simp [ops3, Cl]
def ops2 : List (List UInt8) := [[115, 117, 109, 115, 32], [109, 105, 110, 32]]
theorem ops2_cl : ∀ a ∈ ops2, Cl 5 a := by simp [ops2, Cl]
def opsd : List (List UInt8) := [[115, 104, 111, 119, 32], [100, 114, 111, 112, 32]]
theorem opsd_cl : ∀ a ∈ opsd, Cl 5 a := by simp [opsd, Cl]

/-- One of some constants. -/
theorem constText_any (p B K : Nat) (ls : List (List UInt8)) (hcl : ∀ a ∈ ls, Cl K a) (h0 : 0 < ls.length) (h1 : ls.length ≤ 200) (wx : World) (hs : SrcAt p B wx) (hB : B ≤ 90000) :
    Calls Tryd.prog 51 #[.pointer (some ⟨p, 0, none⟩), .slice (some ⟨wx.heap.size, 0, none⟩) ls.length ls.length] (wx.alloc (.cells (ls.map fun l => Value.string ⟨l.toArray⟩).toArray 9)) (DrawnL p (B + 1) K wx) := by
  have hb0 : Below wx.heap.size wx (wx.alloc (.cells (ls.map fun l => Value.string ⟨l.toArray⟩).toArray 9)) := (Below.refl _ _).alloc (Nat.le_refl _) _
  refine (pickText_any p B (some ⟨wx.heap.size, 0, none⟩) ls.length ls _ (hs.below hb0) (by omega) (const_off p wx ls hs.lt) h0 h1).mono ?_
  rintro e w2 ⟨a, ha, rfl, hs2, hb2⟩
  exact ⟨a, hcl a ha, rfl, hs2, (Beside.of hb0).trans hb2⟩

/-- A byte string that is clean and short. -/
def ClB (K : Nat) (s : ByteArray) : Prop := ∃ a, s = ⟨a.toArray⟩ ∧ Cl K a
theorem ClB.of {K : Nat} {a : List UInt8} (h : Cl K a) : ClB K ⟨a.toArray⟩ := ⟨a, rfl, h⟩
theorem ClB.app {K M : Nat} {s t : ByteArray} (h : ClB K s) (g : ClB M t) : ClB (K + M) (s ++ t) := by
  obtain ⟨a, rfl, ha⟩ := h
  obtain ⟨b, rfl, hb⟩ := g
  exact ⟨a ++ b, bytes_app a b, ha.app hb⟩
theorem ClB.end_ {p A K M : Nat} {w w' : World} {s : ByteArray} (h : ClB K s) (hk : K ≤ M) (hs : SrcAt p A w') (hb : Beside p w w') : DrawnL p A M w (.returned (.string s)) w' := by
  obtain ⟨a, rfl, ha⟩ := h
  exact ⟨a, ha.more hk, rfl, hs, hb⟩
theorem cl_sp : ClB 1 ⟨#[32]⟩ := .of (a := [32]) (by simp [Cl])
theorem cl_let : ClB 4 ⟨#[108, 101, 116, 32]⟩ := .of (a := [108, 101, 116, 32]) (by simp [Cl])
theorem cl_terms : ClB 6 ⟨#[116, 101, 114, 109, 115, 32]⟩ := .of (a := [116, 101, 114, 109, 115, 32]) (by simp [Cl])
theorem cl_same : ClB 5 ⟨#[115, 97, 109, 101, 32]⟩ := .of (a := [115, 97, 109, 101, 32]) (by simp [Cl])
theorem cl_grows : ClB 6 ⟨#[103, 114, 111, 119, 115, 32]⟩ := .of (a := [103, 114, 111, 119, 115, 32]) (by simp [Cl])

theorem rec_cl (R C : List (List UInt8)) (h1 : R.length ≤ 2) (h2 : C.length ≤ 2) (hc : ∀ a ∈ R, Cl 12 a) (hd : ∀ a ∈ C, Cl 12 a) : Cl 61 (recL3 R C) := by
  have j1 := (joinL_cl R hc).more (K' := 30) (by omega)
  have j2 := (joinL_cl C hd).more (K' := 30) (by omega)
  have j3 : Cl 1 [59] := by simp [Cl]
  exact (j1.app j3).app j2

set_option maxRecDepth 100000 in
set_option maxHeartbeats 4000000 in
theorem line_any (p A D : Nat) (L : List (List UInt8)) (w : World) (hs : SrcAt p A w) (hd : NamesAt p D L w) (hA : A ≤ 60000) (hl : L.length ≤ 3) :
    Calls Tryd.prog 39 #[.pointer (some ⟨p, 0, none⟩), .pointer (some ⟨D, 0, none⟩)] w (DrawnL p (A + 40) 120 w) := by
  have HS0 := Lib.hid hs
  have HD := Lib.hid hd
  have HB0 := Lib.hid (Beside.refl p w)
  clear hs hd
  go_enter Tryd.func39, Tryd.ntmps39
  go_wp2_with fail
  refine (drawName_any p A D L _ HS0.out HD.out (by omega) hl).mono ?_
  rintro e w1 ⟨a, ha, rfl, hs1, hb1⟩
  have la := ha.2
  have Ha := Lib.hid ha
  have HS1 := Lib.hid hs1
  have HB1 := Lib.hid hb1
  clear ha hs1 hb1
  go_wp2_with fail
  refine (drawName_any p (A + 2) D L _ HS1.out (HD.out.keep HB1.out) (by omega) hl).mono ?_
  rintro e w2 ⟨b, hbb, rfl, hs2, hb2⟩
  have lb := hbb.2
  have Hb := Lib.hid hbb
  have HS2 := Lib.hid hs2
  have HB2 := Lib.hid (HB1.out.trans hb2)
  clear hbb hs2 hb2
  go_wp2_with fail
  refine (constText_any p (A + 4) 3 names7 names7_cl (by decide) (by decide) w2 HS2.out (by omega)).mono ?_
  rintro e w3 ⟨n, hn, rfl, hs3, hb3⟩
  have ln := hn.2
  have Hn := Lib.hid hn
  have HS3 := Lib.hid hs3
  have HB3 := Lib.hid (HB2.out.trans hb3)
  clear hn hs3 hb3
  go_wp2_with fail
  refine (pick_any p (A + 5) 8 _ HS3.out (by omega) (by omega) (by omega)).mono ?_
  rintro e w4 ⟨z, rfl, z0, z1, hs4, hb4⟩
  have HS4 := Lib.hid hs4
  have HB4 := Lib.hid (HB3.out.trans hb4)
  clear hs4 hb4
  rcases (show z = 0 ∨ z = 1 ∨ z = 2 ∨ z = 3 ∨ z = 4 ∨ z = 5 ∨ z = 6 ∨ z = 7 by omega) with rfl | rfl | rfl | rfl | rfl | rfl | rfl | rfl
  all_goals clear z0 z1
  · -- a constant
    go_wp2_with fail
    refine (constText_any p (A + 6) 11 lines13 lines13_cl (by decide) (by decide) w4 HS4.out (by omega)).mono ?_
    rintro e w5 ⟨c, hc, rfl, hs5, hb5⟩
    have lc := hc.2
    have Hc := Lib.hid hc
    have HS5 := Lib.hid hs5
    have HB5 := Lib.hid (HB4.out.trans hb5)
    clear hc hs5 hb5
    go_wp2
    go_ret
    exact (ClB.of Hc.out).end_ (by omega) (HS5.out.more (by omega)) HB5.out
  · -- let
    go_wp2_with fail
    refine (pick_any p (A + 6) 3 _ HS4.out (by omega) (by omega) (by omega)).mono ?_
    rintro e w5 ⟨y, rfl, y0, y1, hs5, hb5⟩
    obtain ⟨k, rfl⟩ : ∃ k : Nat, y = k := ⟨y.toNat, by omega⟩
    have hk : k ≤ 2 := by omega
    have HS5 := Lib.hid hs5
    have HB5 := Lib.hid (HB4.out.trans hb5)
    clear hs5 hb5 y0 y1
    go_wp2_with fail
    refine (rec_any p (A + 7) k _ HS5.out (by omega) hk).mono ?_
    rintro e w6 ⟨ro, rc, qo, qc, R, C, rfl, hlR, hlC, htR, htC, hcR, hcC, hs6, hb6⟩
    have HS6 := Lib.hid hs6
    have HB6 := Lib.hid (HB5.out.trans hb6)
    have HT := Lib.hid (And.intro htR htC)
    have HCC := Lib.hid (And.intro hcR hcC)
    have HLL := Lib.hid (And.intro hlR hlC)
    clear hs6 hb6 htR htC hcR hcC hlR hlC
    go_wp2_with fail
    have hb7 : Below w6.heap.size w6 (w6.alloc (.cells #[.slice ro k rc, .slice qo k qc] 84)) := (Below.refl _ _).alloc (Nat.le_refl _) _
    refine (recText_any w6.heap.size ro qo rc qc R C _ (by rw [HLL.out.1]; simp [go_sem]) (by rw [HLL.out.2]; simp [go_sem]) (by simp) ((HT.out.1.keep hb7).low (Nat.zero_le _)) ((HT.out.2.keep hb7).low (Nat.zero_le _)) (by rw [HLL.out.1]; omega) (by rw [HLL.out.2]; omega) (fun x hx => (HCC.out.1 x hx).more (by omega)) (fun x hx => (HCC.out.2 x hx).more (by omega))).mono ?_
    rintro e w8 ⟨rfl, hb8⟩
    have hrc := rec_cl R C (by rw [HLL.out.1]; exact hk) (by rw [HLL.out.2]; exact hk) HCC.out.1 HCC.out.2
    have Hr := Lib.hid hrc
    have lr := hrc.2
    have HS8 := Lib.hid ((HS6.out.below hb7).below hb8)
    have HB8 := Lib.hid ((HB6.out.step hb7).step hb8)
    clear hb7 hb8 hrc
    generalize recL3 R C = rr at *
    go_wp2
    go_ret
    exact (((cl_let.app (ClB.of Hn.out)).app cl_sp).app (ClB.of Hr.out)).end_ (by omega) (HS8.out.more (by omega)) HB8.out
  · -- add, mul, conv
    go_wp2_with fail
    refine (constText_any p (A + 6) 5 ops3 ops3_cl (by decide) (by decide) w4 HS4.out (by omega)).mono ?_
    rintro e w5 ⟨c, hc, rfl, hs5, hb5⟩
    have lc := hc.2
    have Hc := Lib.hid hc
    have HS5 := Lib.hid hs5
    have HB5 := Lib.hid (HB4.out.trans hb5)
    clear hc hs5 hb5
    go_wp2
    go_ret
    exact ((((((ClB.of Hc.out).app (ClB.of Hn.out)).app cl_sp).app (ClB.of Ha.out)).app cl_sp).app (ClB.of Hb.out)).end_ (by omega) (HS5.out.more (by omega)) HB5.out
  · -- sums, min
    go_wp2_with fail
    refine (constText_any p (A + 6) 5 ops2 ops2_cl (by decide) (by decide) w4 HS4.out (by omega)).mono ?_
    rintro e w5 ⟨c, hc, rfl, hs5, hb5⟩
    have lc := hc.2
    have Hc := Lib.hid hc
    have HS5 := Lib.hid hs5
    have HB5 := Lib.hid (HB4.out.trans hb5)
    clear hc hs5 hb5
    go_wp2
    go_ret
    exact ((((ClB.of Hc.out).app (ClB.of Hn.out)).app cl_sp).app (ClB.of Ha.out)).end_ (by omega) (HS5.out.more (by omega)) HB5.out
  · -- terms
    go_wp2_with fail
    refine (pick_any p (A + 6) 12 _ HS4.out (by omega) (by omega) (by omega)).mono ?_
    rintro e w5 ⟨y, rfl, y0, y1, hs5, hb5⟩
    have HS5 := Lib.hid hs5
    have HB5 := Lib.hid (HB4.out.trans hb5)
    clear hs5 hb5
    go_wp2_with fail
    generalize hX : y - 1 = X at *
    have x0 : -1 ≤ X := by omega
    have x1 : X ≤ 11 := by omega
    clear hX y0 y1
    refine (int_any X _ (by omega) (by omega)).mono ?_
    rintro e w6 ⟨v, rfl, hq6, hb6⟩
    have HQ6 := Lib.hid hq6
    have HS6 := Lib.hid (HS5.out.below hb6)
    have HB6 := Lib.hid (HB5.out.step hb6)
    clear hq6 hb6
    go_wp2_with fail
    refine (textInt_any X _ v (qval_low HQ6.out (Nat.zero_le _)) (by omega) (by omega)).mono ?_
    rintro e w7 ⟨rfl, hb7⟩
    have HS7 := Lib.hid (HS6.out.below hb7)
    have HB7 := Lib.hid (HB6.out.step hb7)
    have HI := Lib.hid (itoa_cl X (by omega) (by omega))
    have li := HI.out.2
    clear hb7
    generalize Lib.itoa X = s at *
    go_wp2
    go_ret
    exact (((cl_terms.app (ClB.of Ha.out)).app cl_sp).app (ClB.of HI.out)).end_ (by omega) (HS7.out.more (by omega)) HB7.out
  · -- same
    go_wp2
    go_ret
    exact (((cl_same.app (ClB.of Ha.out)).app cl_sp).app (ClB.of Hb.out)).end_ (by omega) (HS4.out.more (by omega)) HB4.out
  · -- grows
    go_wp2
    go_ret
    exact (cl_grows.app (ClB.of Ha.out)).end_ (by omega) (HS4.out.more (by omega)) HB4.out
  · -- show, drop
    go_wp2_with fail
    refine (constText_any p (A + 6) 5 opsd opsd_cl (by decide) (by decide) w4 HS4.out (by omega)).mono ?_
    rintro e w5 ⟨c, hc, rfl, hs5, hb5⟩
    have lc := hc.2
    have Hc := Lib.hid hc
    have HS5 := Lib.hid hs5
    have HB5 := Lib.hid (HB4.out.trans hb5)
    clear hc hs5 hb5
    go_wp2
    go_ret
    exact ((ClB.of Hc.out).app (ClB.of Ha.out)).end_ (by omega) (HS5.out.more (by omega)) HB5.out

end Go.Proofs.YthmjcjoecelnmaaDoor
