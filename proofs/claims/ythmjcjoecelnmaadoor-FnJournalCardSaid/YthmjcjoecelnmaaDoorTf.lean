/-
  l11DrawOk and B10Desk by their contracts: a desk with at most three names, each short and without a newline.
-/
import Derived.Test.YthmjcjoecelnmaaDoorTe
namespace Go.Proofs.YthmjcjoecelnmaaDoor
open Go.RowKit
set_option linter.unusedVariables false

/-- The names that a drawn desk bears. -/
def names5 : List (List UInt8) := [[97], [98], [102, 105, 98], [103, 101, 111], [120]]
theorem names5_cl : ∀ a ∈ names5, Cl 8 a := by simp [names5, Cl]

/-- A list of constants, as it lies behind its making. -/
theorem const_off (p : Nat) (w : World) (ls : List (List UInt8)) (hp : p < w.heap.size) : TxtOff p (w.alloc (.cells (ls.map fun l => Value.string ⟨l.toArray⟩).toArray 9)) (some ⟨w.heap.size, 0, none⟩) ls := by
  intro h0
  refine ⟨w.heap.size, 0, rfl, by omega, by simp, fun t ht => ?_⟩
  simp [go_sem, List.getD, ht]

theorem DeskAt.beside {p lo D : Nat} {L : List (List UInt8)} {w w' : World} (h : DeskAt lo D L w) (hp : p < lo) (hb : Beside p w w') : DeskAt lo D L w' := by
  obtain ⟨h1, nv, bv, xs, hD, hn, hv, ho, hnil⟩ := h
  exact ⟨h1, nv, bv, xs, (hb.block D (Array.getElem?_eq_some_iff.1 hD).1 (by omega)).trans hD, own_beside hn hp hb, own_beside hv hp hb, ho, hnil⟩

/-- What l11DrawOk does. -/
def DrawnD (p A : Nat) (w : World) (e : Ending) (w' : World) : Prop :=
  ∃ ao ca bo cb L, e = .returned (.agg #[.slice ao L.length ca, .slice bo L.length cb]) ∧ L.length ≤ 3 ∧ TxtAt w.heap.size w' ao L ∧ (∀ a ∈ L, Cl 8 a) ∧ SrcAt p A w' ∧ Beside p w w'

set_option maxRecDepth 100000 in
set_option maxHeartbeats 2000000 in
theorem desk_any (p A : Nat) (w : World) (hs : SrcAt p A w) (hA : A ≤ 70000) :
    Calls Tryd.prog 40 #[.pointer (some ⟨p, 0, none⟩)] w (DrawnD p (A + 100) w) := by
  have HS := Lib.hid hs
  have hpl := hs.lt
  have hbW : Below w.heap.size w ((w.alloc (.cells #[.slice none 0 0, .slice none 0 0] 39)).alloc (.cells #[.slice none 0 0, .slice none 0 0] 39)) := (((Below.refl _ _).alloc (Nat.le_refl _) _).alloc (by simp) _)
  have HBW := Lib.hid hbW
  have hst : DeskAt (w.heap.size + 1) (w.heap.size + 1) [] ((w.alloc (.cells #[.slice none 0 0, .slice none 0 0] 39)).alloc (.cells #[.slice none 0 0, .slice none 0 0] 39)) := by
    refine ⟨Nat.le_refl _, .slice none 0 0, .slice none 0 0, [], ?_, World.ownsRow_nil _ _ _ _, World.ownsRow_nil _ _ _ _, (fun u hu => by cases hu), fun _ => ⟨rfl, rfl⟩⟩
    have h := heap_alloc_new (w.alloc (.cells #[.slice none 0 0, .slice none 0 0] 39)) (.cells #[.slice none 0 0, .slice none 0 0] 39)
    simp only [World.size_alloc] at h
    exact h
  have hr0 : ((w.alloc (.cells #[.slice none 0 0, .slice none 0 0] 39)).alloc (.cells #[.slice none 0 0, .slice none 0 0] 39)).heap[w.heap.size]? = some (.cells #[.slice none 0 0, .slice none 0 0] 39 (0, 0)) := by
    have h := heap_alloc_new w (.cells #[.slice none 0 0, .slice none 0 0] 39)
    have hb : Below (w.heap.size + 1) (w.alloc (.cells #[.slice none 0 0, .slice none 0 0] 39)) ((w.alloc (.cells #[.slice none 0 0, .slice none 0 0] 39)).alloc (.cells #[.slice none 0 0, .slice none 0 0] 39)) := (Below.refl _ _).alloc (by simp) _
    exact (hb.block w.heap.size (Nat.lt_succ_self _)).trans h
  have HSt := Lib.hid hst
  have HR0 := Lib.hid hr0
  clear hs hbW hst hr0
  go_enter Tryd.func40, Tryd.ntmps40
  go_wp2_with fail
  generalize hW0 : (w.alloc (.cells #[.slice none 0 0, .slice none 0 0] 39)).alloc (.cells #[.slice none 0 0, .slice none 0 0] 39) = W0 at *
  clear hW0
  refine (pick_any p A 4 W0 (HS.out.below HBW.out) (by omega) (by omega) (by omega)).mono ?_
  rintro e w1 ⟨z, rfl, z0, z1, hs1, hb1⟩
  obtain ⟨n, rfl⟩ : ∃ n : Nat, z = n := ⟨z.toNat, by omega⟩
  have HS1 := Lib.hid hs1
  have HB1 : Hid (Beside p w w1) := (Beside.of HBW.out).trans hb1
  have HD1 := Lib.hid (HSt.out.beside (by omega) hb1)
  have HR1 := Lib.hid ((hb1.block w.heap.size (Array.getElem?_eq_some_iff.1 HR0.out).1 (by omega)).trans HR0.out)
  clear hs1 hb1
  go_wp2
  go_loopg [4] n (fun g i wr => ∃ (j : Nat) (L : List (List UInt8)), i = .int .i64 j ∧ g = j ∧ L.length + j ≤ 3 ∧ (∀ a ∈ L, a ∈ names5) ∧ SrcAt p (A + 67 - 22 * j) wr ∧ Beside p w wr ∧ DeskAt (w.heap.size + 1) (w.heap.size + 1) L wr ∧ wr.heap[w.heap.size]? = some (.cells #[.slice none 0 0, .slice none 0 0] 39 (0, 0)))
  case atStart => exact ⟨n, [], rfl, rfl, by simp; omega, (fun a ha => by cases ha), HS1.out.more (by omega), HB1.out, HD1.out, HR1.out⟩
  case round =>
    clear HS1 HB1 HD1 HR1 HSt HBW HR0
    obtain ⟨j, L, rfl, rfl, hj, hL, hs, hb, hd, hr⟩ := hrel
    have HSr := Lib.hid hs
    have HBr := Lib.hid hb
    have HDr := Lib.hid hd
    have HRr := Lib.hid hr
    have HL := Lib.hid hL
    have hpr := hs.lt
    clear hs hb hd hr hL
    by_cases hlt : 0 < gk
    · go_wp2_with fail
      have hb0 : Below wr.heap.size wr (wr.alloc (.cells #[.string ⟨#[97]⟩, .string ⟨#[98]⟩, .string ⟨#[102, 105, 98]⟩, .string ⟨#[103, 101, 111]⟩, .string ⟨#[120]⟩] 9)) := (Below.refl _ _).alloc (Nat.le_refl _) _
      have HB0 := Lib.hid hb0
      clear hb0
      refine (pickText_any p (A + 67 - 22 * gk) (some ⟨wr.heap.size, 0, none⟩) 5 names5 _ (HSr.out.below HB0.out) (by omega) (const_off p wr names5 hpr) (by decide) (by decide)).mono ?_
      rintro e w2 ⟨a, ha, rfl, hs2, hb2⟩
      have HA := Lib.hid ha
      have HS2 := Lib.hid hs2
      have HB2 := Lib.hid ((Beside.of HB0.out).trans hb2)
      clear ha hs2 hb2
      go_wp2_with fail
      refine (pick_any p (A + 67 - 22 * gk + 1) 3 _ HS2.out (by omega) (by omega) (by omega)).mono ?_
      rintro e w3 ⟨y, rfl, y0, y1, hs3, hb3⟩
      obtain ⟨k, rfl⟩ : ∃ k : Nat, y = k := ⟨y.toNat, by omega⟩
      have HS3 := Lib.hid hs3
      have HB3 := Lib.hid (HB2.out.trans hb3)
      clear hs3 hb3
      go_wp2_with fail
      refine (rec_any p (A + 67 - 22 * gk + 2) k _ HS3.out (by omega) (by omega)).mono ?_
      rintro e w4 ⟨ro, rc, qo, qc, S, C, rfl, -, -, -, -, -, -, hs4, hb4⟩
      have HS4 := Lib.hid hs4
      have HB4 := Lib.hid (HB3.out.trans hb4)
      have HD4 := Lib.hid (HDr.out.beside (by omega) HB4.out)
      have HR4 := Lib.hid ((HB4.out.block w.heap.size (Array.getElem?_eq_some_iff.1 HRr.out).1 (by omega)).trans HRr.out)
      clear hs4 hb4
      go_wp2_with fail
      refine (set_any (w.heap.size + 1) (w.heap.size + 1) L a ro qo k rc k qc _ HD4.out (by omega) (names5_cl a HA.out).2).mono ?_
      rintro e w5 ⟨⟨b, rfl⟩, hb5, L', hd5, hl5, hm5⟩
      have HB5 := Lib.hid hb5
      have HD5 := Lib.hid hd5
      have HM5 := Lib.hid hm5
      clear hb5 hd5 hm5
      go_wp2
      go_roundg (gk - 1)
      case measure => omega
      case rel =>
        refine ⟨gk - 1, L', by congr 1; omega, rfl, by omega, fun x hx => ?_, (HS4.out.keep (HB5.out.mono (by omega))).more (by omega), (HBr.out.trans HB4.out).own (HB5.out.mono (by omega)), HD5.out, (HB5.out.block w.heap.size (Nat.lt_succ_self _)).trans HR4.out⟩
        rcases List.mem_cons.1 (HM5.out x hx) with rfl | h
        · exact HA.out
        · exact HL.out x h
    · obtain rfl : gk = 0 := by omega
      obtain ⟨hlo, nv, bv, xs, hD, hn, hv, ho, hnil⟩ := HDr.out
      obtain ⟨ao, ca, hnv⟩ := own_form hn
      obtain ⟨bo, cb, hbv⟩ := own_form hv
      subst hnv hbv
      have HN := Lib.hid hn
      have c0 : wr.cell? ⟨w.heap.size + 1, 0, none⟩ = some (.slice ao L.length ca) := (cell_of_row wr _ 0 _ 39 (0, 0) hD).trans rfl
      have c1 : wr.cell? ⟨w.heap.size + 1, 1, none⟩ = some (.slice bo L.length cb) := (cell_of_row wr _ 1 _ 39 (0, 0) hD).trans rfl
      have r0 : wr.cell? ⟨w.heap.size, 0, none⟩ = some (.slice none 0 0) := (cell_of_row wr _ 0 _ 39 (0, 0) HRr.out).trans rfl
      have r1 : wr.cell? ⟨w.heap.size, 1, none⟩ = some (.slice none 0 0) := (cell_of_row wr _ 1 _ 39 (0, 0) HRr.out).trans rfl
      have z0 : wr.frozen? ⟨w.heap.size, 0, none⟩ = false := frozen_of_row wr _ 0 _ 39 HRr.out
      have z1 : wr.frozen? ⟨w.heap.size, 1, none⟩ = false := frozen_of_row wr _ 1 _ 39 HRr.out
      have hn' := own_other (u := .slice bo L.length cb) (j := 1) (own_other (u := .slice ao L.length ca) (j := 0) hn HRr.out (by decide)) (heap_setCell_same wr _ 0 _ 39 (.slice ao L.length ca) HRr.out) (by decide)
      have HN' := Lib.hid hn'
      clear hD hn hv ho hnil hn'
      go_wp2
      have hbw : Below w.heap.size wr ((wr.setCell ⟨w.heap.size, 0, none⟩ (.slice ao L.length ca)).setCell ⟨w.heap.size, 1, none⟩ (.slice bo L.length cb)) := ((Below.refl _ _).setCell (p := ⟨w.heap.size, 0, none⟩) (show w.heap.size ≤ w.heap.size from Nat.le_refl _) _).setCell (p := ⟨w.heap.size, 1, none⟩) (show w.heap.size ≤ w.heap.size from Nat.le_refl _) _
      exact bodyPost_ret (v := .agg #[.slice ao L.length ca, .slice bo L.length cb]) (by simp [results, Tryd.results40, go_sem, r0, r1]) rfl ⟨_, _, _, _, L, rfl, by omega, (own_txt HN'.out).low (Nat.le_succ _), fun a ha => names5_cl a (HL.out a ha), (HSr.out.keep (hbw.mono (by omega))).more (by omega), HBr.out.own hbw⟩

end Go.Proofs.YthmjcjoecelnmaaDoor
