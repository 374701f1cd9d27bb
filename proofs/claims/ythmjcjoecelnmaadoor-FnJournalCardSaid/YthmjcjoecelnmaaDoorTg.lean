/-
  B10Desk and l11DrawName by their contracts.
-/
import Derived.Test.YthmjcjoecelnmaaDoorTf
namespace Go.Proofs.YthmjcjoecelnmaaDoor
open Go.RowKit
set_option linter.unusedVariables false

theorem TxtAt.set {lo : Nat} {w : World} {ao : Option Addr} {ls : List (List UInt8)} (h : TxtAt lo w ao ls) {a : Addr} (ha : a.block < lo) (v : Value) : TxtAt lo (w.setCell a v) ao ls := by
  intro h0
  obtain ⟨b, o, e, l, hlt, hc⟩ := h h0
  refine ⟨b, o, e, l, by simpa [World.setCell] using hlt, fun t ht => ?_⟩
  rw [← hc t ht]
  exact World.cell?_of_block (w := w) (a := ⟨b, o + t, none⟩) (Below.heap_setCell w a v b (by omega))

/-- What B10Desk does. -/
def DeskRes (w : World) (e : Ending) (w' : World) : Prop :=
  ∃ ao ca bo cb L, e = .returned (.agg #[.slice ao L.length ca, .slice bo L.length cb]) ∧ L.length ≤ 3 ∧ TxtAt w.heap.size w' ao L ∧ (∀ a ∈ L, Cl 8 a) ∧ Below w.heap.size w w'

set_option maxHeartbeats 1000000 in
theorem b10Desk_any (ao : Option Addr) (n cap : Nat) (w : World) (hn : n ≤ 1048576) (hc : n ≤ cap) (hb : BytesAt w.heap.size w ao n) :
    Calls Tryd.prog 20 #[.slice ao n cap] w (DeskRes w) := by
  have hb0 : Below w.heap.size w (w.alloc (.cells #[.slice none 0 0, .slice none 0 0] 39)) := (Below.refl _ _).alloc (Nat.le_refl _) _
  have HB0 := Lib.hid hb0
  have hby : BytesAt (w.alloc (.cells #[.slice none 0 0, .slice none 0 0] 39)).heap.size (w.alloc (.cells #[.slice none 0 0, .slice none 0 0] 39)) ao n := fun t ht => by
    obtain ⟨b, o, z, e, hlt, hcc, y⟩ := hb t ht
    exact ⟨b, o, z, e, by simp; omega, (hb0.cell (p := ⟨b, o + t, none⟩) hlt).trans hcc, y⟩
  have HBy := Lib.hid hby
  have h0 : (w.alloc (.cells #[.slice none 0 0, .slice none 0 0] 39)).heap[w.heap.size]? = some (.cells #[.slice none 0 0, .slice none 0 0] 39 (0, 0)) := heap_alloc_new w _
  have H0 := Lib.hid h0
  have hsz : (w.alloc (.cells #[.slice none 0 0, .slice none 0 0] 39)).heap.size = w.heap.size + 1 := by simp
  have HSz := Lib.hid hsz
  clear hb0 hby h0 hb hsz
  go_enter Tryd.func20, Tryd.ntmps20
  go_wp2_with fail
  generalize w.alloc (.cells #[.slice none 0 0, .slice none 0 0] 39) = w0 at *
  refine (from_any ao n cap w0 hn hc HBy.out).mono ?_
  rintro e w1 ⟨rfl, hs1, hb1, hl1⟩
  have HS1 := Lib.hid hs1
  have HB1 := Lib.hid hb1
  clear hs1 hb1
  go_wp2_with fail
  refine (desk_any w0.heap.size 0 _ HS1.out (by omega)).mono ?_
  rintro e w2 ⟨no, ca, bo, cb, L, rfl, hl, ht, hcl, -, hb2⟩
  have hsz : w.heap.size < w0.heap.size := by have := HSz.out; omega
  have hb3 : Below w0.heap.size w1 w2 := hb2.below (Nat.le_of_lt hl1)
  have hb4 : Below w0.heap.size w0 w2 := HB1.out.trans hb3
  have h2 := (hb4.block w.heap.size (by omega)).trans H0.out
  have HT := Lib.hid ht
  have HB4 := Lib.hid hb4
  have HCl := Lib.hid hcl
  have r0 : w2.cell? ⟨w.heap.size, 0, none⟩ = some (.slice none 0 0) := (cell_of_row w2 _ 0 _ 39 (0, 0) h2).trans rfl
  have r1 : w2.cell? ⟨w.heap.size, 1, none⟩ = some (.slice none 0 0) := (cell_of_row w2 _ 1 _ 39 (0, 0) h2).trans rfl
  have z0 : w2.frozen? ⟨w.heap.size, 0, none⟩ = false := frozen_of_row w2 _ 0 _ 39 h2
  have z1 : w2.frozen? ⟨w.heap.size, 1, none⟩ = false := frozen_of_row w2 _ 1 _ 39 h2
  clear hb2 hb3 hb4 h2 ht hcl
  go_wp2
  have hT2 := (HT.out.set (a := ⟨w.heap.size, 0, none⟩) (show w.heap.size < w1.heap.size by omega) (.slice no L.length ca)).set (a := ⟨w.heap.size, 1, none⟩) (show w.heap.size < w1.heap.size by omega) (.slice bo L.length cb)
  exact bodyPost_ret (v := .agg #[.slice no L.length ca, .slice bo L.length cb]) (by simp [results, Tryd.results20, go_sem, r0, r1]) rfl ⟨_, _, _, _, L, rfl, hl, hT2.low (by omega), HCl.out, ((HB0.out.trans (HB4.out.mono (by omega))).setCell (p := ⟨w.heap.size, 0, none⟩) (show w.heap.size ≤ w.heap.size from Nat.le_refl _) _).setCell (p := ⟨w.heap.size, 1, none⟩) (show w.heap.size ≤ w.heap.size from Nat.le_refl _) _⟩

/-- A desk as a source draws from it: its block, and its names in another block than the source's. -/
structure NamesAt (p D : Nat) (L : List (List UInt8)) (w : World) : Prop where
  ne : D ≠ p
  lt : D < w.heap.size
  at_ : ∃ ao ca, w.cell? ⟨D, 0, none⟩ = some (.slice ao L.length ca) ∧ TxtOff p w ao L
  cl : ∀ a ∈ L, Cl 8 a

theorem NamesAt.keep {p D : Nat} {L : List (List UInt8)} {w w' : World} (h : NamesAt p D L w) (hb : Beside p w w') : NamesAt p D L w' := by
  obtain ⟨h1, h2, ⟨ao, ca, h3, h4⟩, h5⟩ := h
  exact ⟨h1, Nat.lt_of_lt_of_le h2 hb.size, ⟨ao, ca, (hb.cell (a := ⟨D, 0, none⟩) h2 h1).trans h3, h4.keep hb⟩, h5⟩

def names4 : List (List UInt8) := [[97], [98], [110, 105, 120], []]
theorem names4_cl : ∀ a ∈ names4, Cl 8 a := by simp [names4, Cl]

set_option maxRecDepth 100000 in
set_option maxHeartbeats 1000000 in
theorem drawName_any (p A D : Nat) (L : List (List UInt8)) (w : World) (hs : SrcAt p A w) (hd : NamesAt p D L w) (hA : A ≤ 70000) (hl : L.length ≤ 3) :
    Calls Tryd.prog 50 #[.pointer (some ⟨p, 0, none⟩), .pointer (some ⟨D, 0, none⟩)] w (DrawnL p (A + 2) 8 w) := by
  have HS := Lib.hid hs
  have HD := Lib.hid hd
  obtain ⟨h1, h2, ⟨ao, ca, h3, h4⟩, h5⟩ := hd
  have HT := Lib.hid h4
  have HC := Lib.hid h5
  have HN := Lib.hid h1
  clear hs h4 h5 h1
  have hlast : ∀ (B : Nat) (wx : World), SrcAt p B wx → B ≤ 90000 → Calls Tryd.prog 51 #[.pointer (some ⟨p, 0, none⟩), .slice (some ⟨wx.heap.size, 0, none⟩) 4 4] (wx.alloc (.cells #[.string ⟨#[97]⟩, .string ⟨#[98]⟩, .string ⟨#[110, 105, 120]⟩, .string ⟨#[]⟩] 9)) (DrawnL p (B + 1) 8 wx) := fun B wx hsx hB => by
    have hb0 : Below wx.heap.size wx (wx.alloc (.cells #[.string ⟨#[97]⟩, .string ⟨#[98]⟩, .string ⟨#[110, 105, 120]⟩, .string ⟨#[]⟩] 9)) := (Below.refl _ _).alloc (Nat.le_refl _) _
    refine (pickText_any p B (some ⟨wx.heap.size, 0, none⟩) 4 names4 _ (hsx.below hb0) (by omega) (const_off p wx names4 hsx.lt) (by decide) (by decide)).mono ?_
    rintro e w2 ⟨a, ha, rfl, hs2, hb2⟩
    exact ⟨a, names4_cl a ha, rfl, hs2, (Beside.of hb0).trans hb2⟩
  have HLast := Lib.hid hlast
  clear hlast
  go_enter Tryd.func50, Tryd.ntmps50
  by_cases h0 : 0 < L.length
  · go_wp2_with fail
    refine (one_any p A 6 _ HS.out (by omega) (by omega) (by omega)).mono ?_
    rintro e w1 ⟨b, rfl, hs1, hb1⟩
    have HS1 := Lib.hid hs1
    have HB1 := Lib.hid hb1
    have HT1 := Lib.hid (HT.out.keep hb1)
    have c1 := (hb1.cell (a := ⟨D, 0, none⟩) h2 HN.out).trans h3
    have hD1 : D < w1.heap.size := Nat.lt_of_lt_of_le h2 hb1.size
    clear hs1 hb1 h3
    cases b
    · go_wp2_with fail
      refine (pickText_any p (A + 1) ao ca L _ HS1.out (by omega) HT1.out h0 (by omega)).mono ?_
      rintro e w2 ⟨a, ha, rfl, hs2, hb2⟩
      have HA := Lib.hid (HC.out a ha)
      have HS2 := Lib.hid hs2
      have HB2 := Lib.hid (HB1.out.trans hb2)
      clear ha hs2 hb2
      go_wp2
      go_ret
      exact ⟨a, HA.out, rfl, HS2.out, HB2.out⟩
    · go_wp2_with fail
      refine (HLast.out (A + 1) _ HS1.out (by omega)).mono ?_
      rintro e w2 ⟨a, ha, rfl, hs2, hb2⟩
      have HA := Lib.hid ha
      have HS2 := Lib.hid hs2
      have HB2 := Lib.hid (HB1.out.trans hb2)
      clear ha hs2 hb2
      go_wp2
      go_ret
      exact ⟨a, HA.out, rfl, HS2.out, HB2.out⟩
  · have hL0 : L.length = 0 := by omega
    rw [hL0] at h3
    go_wp2_with fail
    refine (HLast.out A _ HS.out (by omega)).mono ?_
    rintro e w2 ⟨a, ha, rfl, hs2, hb2⟩
    have HA := Lib.hid ha
    have HS2 := Lib.hid hs2
    have HB2 := Lib.hid hb2
    clear ha hs2 hb2
    go_wp2
    go_ret
    exact ⟨a, HA.out, rfl, HS2.out.more (by omega), HB2.out⟩

end Go.Proofs.YthmjcjoecelnmaaDoor
