/-
  l03DrawOf by its contract at an order of at most 2: two rows of short texts without newlines.
-/
import Derived.Test.YthmjcjoecelnmaaDoorTc
import Derived.Test.YthmjcjoecelnmaaDoorTd
import Derived.Deep.AppendLies
namespace Go.Proofs.YthmjcjoecelnmaaDoor
open Go.RowKit
set_option linter.unusedVariables false

theorem own_beside {p : Nat} {w w' : World} {base n : Nat} {e : TypeId} {size : Nat} {v : Value} {xs : List Value} (h : w.ownsRow base e size v n xs) (hp : p < base) (hb : Beside p w w') : w'.ownsRow base e size v n xs := by
  refine ⟨h.1, ?_⟩
  rcases h.2 with h2 | ⟨g, cap, cur, hv, hbg, hg, hr⟩
  · exact .inl h2
  · exact .inr ⟨g, cap, cur, hv, hbg, (hb.block g (Array.getElem?_eq_some_iff.1 hg).1 (by omega)).trans hg, hr⟩

/-- A recurrence that is being drawn: two rows of its own, in a block. -/
def RecW (lo R B i i' : Nat) (S C : List (List UInt8)) (wr : World) : Prop :=
  ∃ ga ca gb cb, wr.heap[B]? = some (.cells #[.slice (some ⟨ga, 0, none⟩) i ca, .slice (some ⟨gb, 0, none⟩) i' cb] 84 (0, 0)) ∧ wr.ownsRow lo 9 1 (.slice (some ⟨ga, 0, none⟩) i ca) i (S.map sv) ∧ wr.ownsRow lo 9 1 (.slice (some ⟨gb, 0, none⟩) i' cb) i' (C.map sv) ∧ ga ≠ gb ∧ wr.heap[R]? = some (.cells #[.slice none 0 0, .slice none 0 0] 84 (0, 0)) ∧ R ≠ B

theorem RecW.beside {p lo R B i i' : Nat} {S C : List (List UInt8)} {w w' : World} (h : RecW lo R B i i' S C w) (h1 : p < lo) (h2 : p ≠ R) (h3 : p ≠ B) (hb : Beside p w w') : RecW lo R B i i' S C w' := by
  obtain ⟨ga, ca, gb, cb, hB, ha, hc, hn, hR, hd⟩ := h
  exact ⟨ga, ca, gb, cb, (hb.block B (Array.getElem?_eq_some_iff.1 hB).1 (Ne.symm h3)).trans hB, own_beside ha h1 hb, own_beside hc h1 hb, hn, (hb.block R (Array.getElem?_eq_some_iff.1 hR).1 (Ne.symm h2)).trans hR, hd⟩

theorem Beside.own {p : Nat} {w a b : World} (h : Beside p w a) (hb : Below w.heap.size a b) : Beside p w b :=
  ⟨hb.os.trans h.os, hb.tape.trans h.tape, hb.output.trans h.output, Nat.le_trans h.size hb.size, fun k hk hn => (hb.block k hk).trans (h.block k hk hn)⟩

/-- A text is appended to the first row, and stored. -/
theorem rec_put0 {lo R B i i' ga ca gb cb g1 k1 : Nat} {S C : List (List UInt8)} {a : List UInt8} {wx w5 : World} {o : Obj}
    (hB : wx.heap[B]? = some (.cells #[.slice (some ⟨ga, 0, none⟩) i ca, .slice (some ⟨gb, 0, none⟩) i' cb] 84 (0, 0))) (ha : wx.ownsRow lo 9 1 (.slice (some ⟨ga, 0, none⟩) i ca) i (S.map sv)) (hc : wx.ownsRow lo 9 1 (.slice (some ⟨gb, 0, none⟩) i' cb) i' (C.map sv)) (hn : ga ≠ gb)
    (hR : wx.heap[R]? = some (.cells #[.slice none 0 0, .slice none 0 0] 84 (0, 0))) (hd : R ≠ B) (hlB : lo ≤ B) (hl : lo ≤ wx.heap.size)
    (hown : w5.ownsRow lo 9 1 (.slice (some ⟨g1, 0, none⟩) (i + 1) k1) (i + 1) ((S ++ [a]).map sv)) (hg : (wx.alloc o).grownBy w5 (Value.slice (some ⟨ga, 0, none⟩) i ca).ownBlock) (hor : (Value.slice (some ⟨ga, 0, none⟩) i ca).ownBlock = some g1 ∨ g1 = wx.heap.size + 1) :
    w5.cell? ⟨B, 0, none⟩ = some (.slice (some ⟨ga, 0, none⟩) i ca) ∧ w5.frozen? ⟨B, 0, none⟩ = false ∧ RecW lo R B (i + 1) i' (S ++ [a]) C (w5.setCell ⟨B, 0, none⟩ (.slice (some ⟨g1, 0, none⟩) (i + 1) k1)) ∧ Below lo wx (w5.setCell ⟨B, 0, none⟩ (.slice (some ⟨g1, 0, none⟩) (i + 1) k1)) := by
  simp only [Value.ownBlock] at hg hor
  obtain ⟨hla, cur, hga⟩ := own_block ha
  obtain ⟨hlb, cur2, hgb⟩ := own_block hc
  have hal : Below wx.heap.size wx (wx.alloc o) := (Below.refl _ _).alloc (Nat.le_refl _) _
  have sB := (Array.getElem?_eq_some_iff.1 hB).1
  have sR := (Array.getElem?_eq_some_iff.1 hR).1
  have sb := (Array.getElem?_eq_some_iff.1 hgb).1
  have nB : B ≠ ga := fun h => by rw [h, hga] at hB; simp at hB
  have nR : R ≠ ga := fun h => by rw [h, hga] at hR; simp at hR
  have e5 : ∀ x, x < wx.heap.size → x ≠ ga → w5.heap[x]? = wx.heap[x]? := fun x hx hne => (hg.block x (by simp; omega) (by simp [hne])).trans (hal.block x hx)
  have hB5 := (e5 B sB nB).trans hB
  have hR5 := (e5 R sR nR).trans hR
  have hc5 : w5.ownsRow lo 9 1 (.slice (some ⟨gb, 0, none⟩) i' cb) i' (C.map sv) := (hc.alloc o).kept hg (.inr (by simp [Value.ownBlock, Ne.symm hn]))
  have hn1 : g1 ≠ gb := by
    rcases hor with h | h
    · simp only [Option.some.injEq] at h
      omega
    · omega
  have hb5 : Below lo wx w5 := ((Below.refl _ _).alloc hl _).grown hg (by simp; omega) (fun k hk => by simp at hk; omega)
  refine ⟨(cell_of_row w5 B 0 _ 84 (0, 0) hB5).trans rfl, frozen_of_row w5 B 0 _ 84 hB5, ⟨g1, k1, gb, cb, heap_setCell_same w5 B 0 _ 84 _ hB5, own_other hown hB5 (by decide), own_other hc5 hB5 (by decide), hn1, ?_, hd⟩, hb5.setCell hlB _⟩
  rw [Below.heap_setCell _ _ _ _ hd]
  exact hR5

/-- A text is appended to the second row, and stored. -/
theorem rec_put1 {lo R B i i' ga ca gb cb g1 k1 : Nat} {S C : List (List UInt8)} {a : List UInt8} {wx w5 : World} {o : Obj}
    (hB : wx.heap[B]? = some (.cells #[.slice (some ⟨ga, 0, none⟩) i ca, .slice (some ⟨gb, 0, none⟩) i' cb] 84 (0, 0))) (ha : wx.ownsRow lo 9 1 (.slice (some ⟨ga, 0, none⟩) i ca) i (S.map sv)) (hc : wx.ownsRow lo 9 1 (.slice (some ⟨gb, 0, none⟩) i' cb) i' (C.map sv)) (hn : ga ≠ gb)
    (hR : wx.heap[R]? = some (.cells #[.slice none 0 0, .slice none 0 0] 84 (0, 0))) (hd : R ≠ B) (hlB : lo ≤ B) (hl : lo ≤ wx.heap.size)
    (hown : w5.ownsRow lo 9 1 (.slice (some ⟨g1, 0, none⟩) (i' + 1) k1) (i' + 1) ((C ++ [a]).map sv)) (hg : (wx.alloc o).grownBy w5 (Value.slice (some ⟨gb, 0, none⟩) i' cb).ownBlock) (hor : (Value.slice (some ⟨gb, 0, none⟩) i' cb).ownBlock = some g1 ∨ g1 = wx.heap.size + 1) :
    w5.cell? ⟨B, 1, none⟩ = some (.slice (some ⟨gb, 0, none⟩) i' cb) ∧ w5.frozen? ⟨B, 1, none⟩ = false ∧ RecW lo R B i (i' + 1) S (C ++ [a]) (w5.setCell ⟨B, 1, none⟩ (.slice (some ⟨g1, 0, none⟩) (i' + 1) k1)) ∧ Below lo wx (w5.setCell ⟨B, 1, none⟩ (.slice (some ⟨g1, 0, none⟩) (i' + 1) k1)) := by
  simp only [Value.ownBlock] at hg hor
  obtain ⟨hla, cur, hga⟩ := own_block ha
  obtain ⟨hlb, cur2, hgb⟩ := own_block hc
  have hal : Below wx.heap.size wx (wx.alloc o) := (Below.refl _ _).alloc (Nat.le_refl _) _
  have sB := (Array.getElem?_eq_some_iff.1 hB).1
  have sR := (Array.getElem?_eq_some_iff.1 hR).1
  have sa := (Array.getElem?_eq_some_iff.1 hga).1
  have nB : B ≠ gb := fun h => by rw [h, hgb] at hB; simp at hB
  have nR : R ≠ gb := fun h => by rw [h, hgb] at hR; simp at hR
  have e5 : ∀ x, x < wx.heap.size → x ≠ gb → w5.heap[x]? = wx.heap[x]? := fun x hx hne => (hg.block x (by simp; omega) (by simp [hne])).trans (hal.block x hx)
  have hB5 := (e5 B sB nB).trans hB
  have hR5 := (e5 R sR nR).trans hR
  have ha5 : w5.ownsRow lo 9 1 (.slice (some ⟨ga, 0, none⟩) i ca) i (S.map sv) := (ha.alloc o).kept hg (.inr (by simp [Value.ownBlock, hn]))
  have hn1 : ga ≠ g1 := by
    rcases hor with h | h
    · simp only [Option.some.injEq] at h
      omega
    · omega
  have hb5 : Below lo wx w5 := ((Below.refl _ _).alloc hl _).grown hg (by simp; omega) (fun k hk => by simp at hk; omega)
  refine ⟨(cell_of_row w5 B 1 _ 84 (0, 0) hB5).trans rfl, frozen_of_row w5 B 1 _ 84 hB5, ⟨ga, ca, g1, k1, heap_setCell_same w5 B 1 _ 84 _ hB5, own_other ha5 hB5 (by decide), own_other hown hB5 (by decide), hn1, ?_, hd⟩, hb5.setCell hlB _⟩
  rw [Below.heap_setCell _ _ _ _ hd]
  exact hR5

/-- The two rows are there from the first. -/
theorem rec_start (w : World) : RecW w.heap.size w.heap.size (w.heap.size + 1 + 1 + 1) 0 0 [] [] ((((w.alloc (.cells #[.slice none 0 0, .slice none 0 0] 84)).alloc (.cells #[] 9)).alloc (.cells #[] 9)).alloc (.cells #[.slice (some ⟨w.heap.size + 1, 0, none⟩) 0 0, .slice (some ⟨w.heap.size + 1 + 1, 0, none⟩) 0 0] 84)) := by
  have m1 := World.ownsRow_made (base := w.heap.size) (e := 9) (size := 1) (w.alloc (.cells #[.slice none 0 0, .slice none 0 0] 84)) #[] 0 (by simp) (by simp [maxLen]) rfl
  have m2 := World.ownsRow_made (base := w.heap.size) (e := 9) (size := 1) ((w.alloc (.cells #[.slice none 0 0, .slice none 0 0] 84)).alloc (.cells #[] 9)) #[] 0 (by simp; omega) (by simp [maxLen]) rfl
  simp only [World.size_alloc] at m1 m2
  refine ⟨w.heap.size + 1, 0, w.heap.size + 1 + 1, 0, ?_, (m1.alloc _).alloc _, m2.alloc _, by omega, ?_, by omega⟩
  · have h := heap_alloc_new (((w.alloc (.cells #[.slice none 0 0, .slice none 0 0] 84)).alloc (.cells #[] 9)).alloc (.cells #[] 9)) (.cells #[.slice (some ⟨w.heap.size + 1, 0, none⟩) 0 0, .slice (some ⟨w.heap.size + 1 + 1, 0, none⟩) 0 0] 84)
    simp only [World.size_alloc] at h
    exact h
  · have h := heap_alloc_new w (.cells #[.slice none 0 0, .slice none 0 0] 84)
    have hb : Below (w.heap.size + 1) (w.alloc (.cells #[.slice none 0 0, .slice none 0 0] 84)) ((((w.alloc (.cells #[.slice none 0 0, .slice none 0 0] 84)).alloc (.cells #[] 9)).alloc (.cells #[] 9)).alloc (.cells #[.slice (some ⟨w.heap.size + 1, 0, none⟩) 0 0, .slice (some ⟨w.heap.size + 1 + 1, 0, none⟩) 0 0] 84)) := (((Below.refl _ _).alloc (by simp) _).alloc (by simp) _).alloc (by first | (simp; done) | (simp; omega)) _
    exact (hb.block w.heap.size (Nat.lt_succ_self _)).trans h

/-- A yes or a no, as a value. -/
def IsBool (v : Value) : Prop := ∃ q : Bool, v = .bool q

theorem own_txt {lo n cap : Nat} {w : World} {ao : Option Addr} {L : List (List UInt8)} (h : w.ownsRow lo 9 1 (.slice ao n cap) n (L.map sv)) : TxtAt lo w ao L := by
  have hl : L.length = n := by simpa using h.1
  subst hl
  obtain ⟨ao', cap', e, ht, _⟩ := txt_view h
  simp only [Value.slice.injEq, true_and] at e
  obtain ⟨rfl, rfl⟩ := e
  exact ht

/-- What l03DrawOf does. -/
def DrawnR (p A k : Nat) (w : World) (e : Ending) (w' : World) : Prop :=
  ∃ ao ca bo cb S C, e = .returned (.agg #[.slice ao k ca, .slice bo k cb]) ∧ S.length = k ∧ C.length = k ∧ TxtAt w.heap.size w' ao S ∧ TxtAt w.heap.size w' bo C ∧ (∀ a ∈ S, Cl 12 a) ∧ (∀ a ∈ C, Cl 12 a) ∧ SrcAt p A w' ∧ Beside p w w'

set_option maxRecDepth 100000 in
set_option maxHeartbeats 2000000 in
theorem rec_any (p A k : Nat) (w : World) (hs : SrcAt p A w) (hA : A ≤ 80000) (hk : k ≤ 2) :
    Calls Tryd.prog 52 #[.pointer (some ⟨p, 0, none⟩), .int .i64 k] w (DrawnR p (A + 20) k w) := by
  have HS := Lib.hid hs
  obtain ⟨i0, hi, hz0, hz1, hz2⟩ := info_parts Tryd.info9
  clear hs
  have hst := rec_start w
  have HSt := Lib.hid hst
  have hbW : Below w.heap.size w ((((w.alloc (.cells #[.slice none 0 0, .slice none 0 0] 84)).alloc (.cells #[] 9)).alloc (.cells #[] 9)).alloc (.cells #[.slice (some ⟨w.heap.size + 1, 0, none⟩) 0 0, .slice (some ⟨w.heap.size + 1 + 1, 0, none⟩) 0 0] 84)) := (((((Below.refl _ _).alloc (Nat.le_refl _) _).alloc (by simp) _).alloc (by simp; omega) _).alloc (by simp; omega) _)
  have HBW := Lib.hid hbW
  have hpl := HS.out.lt
  clear hst hbW
  go_enter Tryd.func52, Tryd.ntmps52
  go_wp2_with fail
  generalize hW0 : ((((w.alloc (.cells #[.slice none 0 0, .slice none 0 0] 84)).alloc (.cells #[] 9)).alloc (.cells #[] 9)).alloc (.cells #[.slice (some ⟨w.heap.size + 1, 0, none⟩) 0 0, .slice (some ⟨w.heap.size + 1 + 1, 0, none⟩) 0 0] 84)) = W0 at *
  clear hW0
  refine (one_any p A 6 W0 (HS.out.below HBW.out) (by omega) (by omega) (by omega)).mono ?_
  rintro e w1 ⟨fr, rfl, hs1, hb1⟩
  have HS1 := Lib.hid hs1
  have HB1 : Hid (Beside p w w1) := (Beside.of HBW.out).trans hb1
  have HR1 := Lib.hid (HSt.out.beside hpl (by omega) (by omega) hb1)
  clear hs1 hb1
  go_wp2
  go_loopg [7] k (fun g i wr => ∃ (j : Nat) (S C : List (List UInt8)), i = .int .i64 j ∧ j ≤ k ∧ g + j = k ∧ SrcAt p (A + 1 + 6 * j) wr ∧ Beside p w wr ∧ RecW w.heap.size w.heap.size (w.heap.size + 1 + 1 + 1) j j S C wr ∧ (∀ a ∈ S, Cl 12 a) ∧ (∀ a ∈ C, Cl 12 a))
  case atStart => exact ⟨0, [], [], rfl, Nat.zero_le _, rfl, HS1.out, HB1.out, HR1.out, (fun a ha => by cases ha), (fun a ha => by cases ha)⟩
  case round =>
    clear HS1 HB1 HR1 HSt HBW
    obtain ⟨j, S, C, rfl, hj, hg, hs, hb, hr, hcS, hcC⟩ := hrel
    have HSr := Lib.hid hs
    have HBr := Lib.hid hb
    have HRr := Lib.hid hr
    have HcS := Lib.hid hcS
    have HcC := Lib.hid hcC
    clear hs hb hr hcS hcC
    by_cases hlt : j < k
    · go_wp2_with fail
      refine (pick_any p (A + 1 + 6 * j) 9 _ HSr.out (by omega) (by omega) (by omega)).mono ?_
      rintro e w2 ⟨z, rfl, z0, z1, hs2, hb2⟩
      have HS2 := Lib.hid hs2
      have HB2 := Lib.hid hb2
      clear hs2 hb2
      go_wp2_with fail
      generalize hX : z - 4 = X at *
      have x0 : -4 ≤ X := by omega
      have x1 : X ≤ 4 := by omega
      clear hX z0 z1
      refine (int_any X _ (by omega) (by omega)).mono ?_
      rintro e w3 ⟨v, rfl, hq3, hb3⟩
      have HQ3 := Lib.hid hq3
      have HS3 := Lib.hid (HS2.out.below hb3)
      have HB3 := Lib.hid (HB2.out.step hb3)
      clear hq3 hb3
      go_wp2_with fail
      refine (textInt_any X _ v (qval_low HQ3.out (Nat.zero_le _)) (by omega) (by omega)).mono ?_
      rintro e w4 ⟨rfl, hb4⟩
      have HS4 := Lib.hid (HS3.out.below hb4)
      have HB4 := Lib.hid (HB3.out.step hb4)
      have HIa := Lib.hid (itoa_cl X (by omega) (by omega))
      clear hb4
      generalize Lib.itoa X = a at *
      go_wp2_with fail
      refine (pick_any p (A + 1 + 6 * j + 1) 7 _ HS4.out (by omega) (by omega) (by omega)).mono ?_
      rintro e w5 ⟨y, rfl, y0, y1, hs5, hb5⟩
      have HS5 := Lib.hid hs5
      have HB5 := Lib.hid (HB4.out.trans hb5)
      clear hs5 hb5
      go_wp2_with fail
      generalize hY : y - 3 = Y at *
      have v0 : -3 ≤ Y := by omega
      have v1 : Y ≤ 3 := by omega
      clear hY y0 y1
      refine (int_any Y _ (by omega) (by omega)).mono ?_
      rintro e w6 ⟨u, rfl, hq6, hb6⟩
      have HQ6 := Lib.hid hq6
      have HS6 := Lib.hid (HS5.out.below hb6)
      have HB6 := Lib.hid (HB5.out.step hb6)
      clear hq6 hb6
      go_wp2_with fail
      refine (textInt_any Y _ u (qval_low HQ6.out (Nat.zero_le _)) (by omega) (by omega)).mono ?_
      rintro e w7 ⟨rfl, hb7⟩
      have HS7 := Lib.hid (HS6.out.below hb7)
      have HB7 := Lib.hid (HB6.out.step hb7)
      have HIb := Lib.hid (itoa_cl Y (by omega) (by omega))
      clear hb7
      generalize Lib.itoa Y = b at *
      go_upto_region 8 with fail
      go_cut [34] from 15 to 48 (fun t wx => IsBool t ∧ SrcAt p (A + 1 + 6 * j + 3) wx ∧ Beside p wr wx)
      case first =>
        cases fr
        · go_wp2_with fail
          go_meet
          exact ⟨⟨_, rfl⟩, HS7.out.more (by omega), HB7.out⟩
        · go_wp2_with fail
          refine (one_any p (A + 1 + 6 * j + 2) 2 _ HS7.out (by omega) (by omega) (by omega)).mono ?_
          rintro e w8 ⟨t, rfl, hs8, hb8⟩
          have HS8 := Lib.hid hs8
          have HB8 := Lib.hid (HB7.out.trans hb8)
          clear hs8 hb8
          go_wp2_with fail
          go_meet
          exact ⟨⟨_, rfl⟩, HS8.out, HB8.out⟩
      case rest =>
      clear HS2 HB2 HQ3 HS3 HB3 HS4 HB4 HS5 HB5 HQ6 HS6 HB6 HS7 HB7
      obtain ⟨⟨q, rfl⟩, hs8, hb8⟩ := hcut
      have HS8 := Lib.hid hs8
      have HB8 := Lib.hid hb8
      clear hs8 hb8
      go_upto_if 34 with fail
      go_cut [9] from 15 to 48 (fun b wx => ∃ sb : List UInt8, b = .string ⟨sb.toArray⟩ ∧ Cl 12 sb ∧ SrcAt p (A + 1 + 6 * j + 6) wx ∧ Beside p wr wx)
      case first =>
        cases q
        · go_wp2_with fail
          go_meet
          exact ⟨b, rfl, HIb.out, HS8.out.more (by omega), HB8.out⟩
        · go_wp2_with fail
          refine (small_any p (A + 1 + 6 * j + 3) _ HS8.out (by omega)).mono ?_
          rintro e w9 ⟨c, hc, rfl, hs9, hb9⟩
          have HC9 := Lib.hid hc
          have HS9 := Lib.hid hs9
          have HB9 := Lib.hid (HB8.out.trans hb9)
          clear hc hs9 hb9
          go_wp2_with fail
          go_meet
          exact ⟨c, rfl, HC9.out, HS9.out.more (by omega), HB9.out⟩
      case rest =>
        clear HS8 HB8 HIb
        obtain ⟨sb, rfl, hcb, hsx, hbx⟩ := hcut
        have HCb := Lib.hid hcb
        have HSx := Lib.hid hsx
        have HBx := Lib.hid (HBr.out.trans hbx)
        obtain ⟨ga, ca, gb, cb, hB, ha, hc, hn, hR, hd⟩ := HRr.out.beside hpl (by omega) (by omega) hbx
        have HB := Lib.hid hB
        have HA := Lib.hid ha
        have HCc := Lib.hid hc
        have HR := Lib.hid hR
        have hlx : w.heap.size ≤ wc.heap.size := HBx.out.size
        have c0 : wc.cell? ⟨w.heap.size + 1 + 1 + 1, 0, none⟩ = some (.slice (some ⟨ga, 0, none⟩) j ca) := (cell_of_row wc _ 0 _ 84 (0, 0) hB).trans rfl
        clear hcb hsx hbx hB ha hc hR
        go_wp2_with (first | (at_builtin; refine wpList_append_lies _ rfl (.tmp 38) (.tmp 40) 24 rfl w.heap.size 9 i0 (.string ⟨#[]⟩) 1 16 Tryd.underlying24 hi hz0 hz1 hz2 rfl (by decide) _ _ _ rfl (HA.out.alloc _) ⟨wc.heap.size, 0, none⟩ 1 1 [.string ⟨a.toArray⟩] rfl rfl ?c1 ?c2 ?c3 ?c4 ?c5 ?c6 _ rfl ?_))
        case c1 => exact one_at _ _ _
        case c2 => first | rfl | (intro u hu; simp at hu; subst hu; rfl)
        case c3 => omega
        case c4 => unfold maxLen; omega
        case c5 => omega
        case c6 => first | omega | (simp; omega)
        intro g1 k1 w5 hown5 hgrow5 hor5 _
        have hown5' : w5.ownsRow w.heap.size 9 1 (.slice (some ⟨g1, 0, none⟩) (j + 1) k1) (j + 1) ((S ++ [a]).map sv) := by simpa [sv] using hown5
        have hp0 := rec_put0 HB.out HA.out HCc.out hn HR.out hd (show w.heap.size ≤ w.heap.size + 1 + 1 + 1 by omega) hlx hown5' hgrow5 hor5
        have p0 := hp0.1
        have p1 := hp0.2.1
        have HP0 := Lib.hid hp0.2.2
        clear hown5 hgrow5 hor5 hown5' hp0 c0
        go_upto_region 11 with fail
        generalize w5.setCell ⟨w.heap.size + 1 + 1 + 1, 0, none⟩ (.slice (some ⟨g1, 0, none⟩) (j + 1) k1) = w6 at *
        clear p0 p1
        obtain ⟨ga2, ca2, gb2, cb2, hB2, ha2, hc2, hn2, hR2, hd2⟩ := HP0.out.1
        have HB2 := Lib.hid hB2
        have HA2 := Lib.hid ha2
        have HC2 := Lib.hid hc2
        have HR2 := Lib.hid hR2
        have hs56 := HP0.out.2.size
        have hl6 : w.heap.size ≤ w6.heap.size := by omega
        have c1 : w6.cell? ⟨w.heap.size + 1 + 1 + 1, 1, none⟩ = some (.slice (some ⟨gb2, 0, none⟩) j cb2) := (cell_of_row w6 _ 1 _ 84 (0, 0) hB2).trans rfl
        clear hB2 ha2 hc2 hR2
        go_wp2_with (first | (at_builtin; refine wpList_append_lies _ rfl (.tmp 44) (.tmp 46) 24 rfl w.heap.size 9 i0 (.string ⟨#[]⟩) 1 16 Tryd.underlying24 hi hz0 hz1 hz2 rfl (by decide) _ _ _ rfl (HC2.out.alloc _) ⟨w6.heap.size, 0, none⟩ 1 1 [.string ⟨sb.toArray⟩] rfl rfl ?d1 ?d2 ?d3 ?d4 ?d5 ?d6 _ rfl ?_))
        case d1 => exact one_at _ _ _
        case d2 => first | rfl | (intro u hu; simp at hu; subst hu; rfl)
        case d3 => omega
        case d4 => unfold maxLen; omega
        case d5 => omega
        case d6 => first | omega | (simp; omega)
        intro g2 k2 w7 hown7 hgrow7 hor7 _
        have hown7' : w7.ownsRow w.heap.size 9 1 (.slice (some ⟨g2, 0, none⟩) (j + 1) k2) (j + 1) ((C ++ [sb]).map sv) := by simpa [sv] using hown7
        have hp1 := rec_put1 HB2.out HA2.out HC2.out hn2 HR2.out hd2 (show w.heap.size ≤ w.heap.size + 1 + 1 + 1 by omega) hl6 hown7' hgrow7 hor7
        have p0 := hp1.1
        have p1 := hp1.2.1
        have HP1 := Lib.hid hp1.2.2
        clear hown7 hgrow7 hor7 hown7' hp1 c1
        go_wp2
        go_roundg (gk - 1)
        case measure => omega
        case rel =>
          have hb68 := HP0.out.2.trans HP1.out.2
          exact ⟨j + 1, S ++ [a], C ++ [sb], by go_num, by omega, by omega, (HSx.out.keep (hb68.mono (by omega))).more (by omega), HBx.out.own hb68, HP1.out.1, fun x hx => by
            rcases List.mem_append.1 hx with hx | hx
            · exact HcS.out x hx
            · rw [List.mem_singleton.1 hx]; exact HIa.out, fun x hx => by
            rcases List.mem_append.1 hx with hx | hx
            · exact HcC.out x hx
            · rw [List.mem_singleton.1 hx]; exact HCb.out⟩
    · obtain rfl : j = k := by omega
      obtain ⟨ga, ca, gb, cb, hB, ha, hc, hn, hR, hd⟩ := HRr.out
      have c0 : wr.cell? ⟨w.heap.size + 1 + 1 + 1, 0, none⟩ = some (.slice (some ⟨ga, 0, none⟩) j ca) := (cell_of_row wr _ 0 _ 84 (0, 0) hB).trans rfl
      have c1 : wr.cell? ⟨w.heap.size + 1 + 1 + 1, 1, none⟩ = some (.slice (some ⟨gb, 0, none⟩) j cb) := (cell_of_row wr _ 1 _ 84 (0, 0) hB).trans rfl
      have r0 : wr.cell? ⟨w.heap.size, 0, none⟩ = some (.slice none 0 0) := (cell_of_row wr _ 0 _ 84 (0, 0) hR).trans rfl
      have r1 : wr.cell? ⟨w.heap.size, 1, none⟩ = some (.slice none 0 0) := (cell_of_row wr _ 1 _ 84 (0, 0) hR).trans rfl
      have z0 : wr.frozen? ⟨w.heap.size, 0, none⟩ = false := frozen_of_row wr _ 0 _ 84 hR
      have z1 : wr.frozen? ⟨w.heap.size, 1, none⟩ = false := frozen_of_row wr _ 1 _ 84 hR
      have hlS : S.length = j := by have := ha.1; simpa using this
      have hlC : C.length = j := by have := hc.1; simpa using this
      have ha' := own_other (u := .slice (some ⟨gb, 0, none⟩) j cb) (j := 1) (own_other (u := .slice (some ⟨ga, 0, none⟩) j ca) (j := 0) ha hR (by decide)) (heap_setCell_same wr _ 0 _ 84 (.slice (some ⟨ga, 0, none⟩) j ca) hR) (by decide)
      have hc' := own_other (u := .slice (some ⟨gb, 0, none⟩) j cb) (j := 1) (own_other (u := .slice (some ⟨ga, 0, none⟩) j ca) (j := 0) hc hR (by decide)) (heap_setCell_same wr _ 0 _ 84 (.slice (some ⟨ga, 0, none⟩) j ca) hR) (by decide)
      have HA := Lib.hid ha'
      have HC := Lib.hid hc'
      have HLS := Lib.hid (And.intro hlS hlC)
      clear hB ha hc hR ha' hc' hlS hlC
      go_wp2
      have hbw : Below w.heap.size wr ((wr.setCell ⟨w.heap.size, 0, none⟩ (.slice (some ⟨ga, 0, none⟩) j ca)).setCell ⟨w.heap.size, 1, none⟩ (.slice (some ⟨gb, 0, none⟩) j cb)) := ((Below.refl _ _).setCell (p := ⟨w.heap.size, 0, none⟩) (show w.heap.size ≤ w.heap.size from Nat.le_refl _) _).setCell (p := ⟨w.heap.size, 1, none⟩) (show w.heap.size ≤ w.heap.size from Nat.le_refl _) _
      exact bodyPost_ret (v := .agg #[.slice (some ⟨ga, 0, none⟩) j ca, .slice (some ⟨gb, 0, none⟩) j cb]) (by simp [results, Tryd.results52, go_sem, r0, r1]) rfl ⟨_, _, _, _, S, C, rfl, HLS.out.1, HLS.out.2, own_txt HA.out, own_txt HC.out, HcS.out, HcC.out, (HSr.out.keep (hbw.mono (by omega))).more (by omega), HBr.out.own hbw⟩

end Go.Proofs.YthmjcjoecelnmaaDoor
