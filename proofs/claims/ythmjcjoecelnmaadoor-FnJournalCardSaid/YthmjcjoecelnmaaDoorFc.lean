/-
  l01ZAdd by its contract at a difference of two integers of one digit each, the first one not less than the second.
-/
import Derived.Test.YthmjcjoecelnmaaDoorFb
namespace Go.Proofs.YthmjcjoecelnmaaDoor
open Go.RowKit
set_option linter.unusedVariables false

theorem cut1 {x m : Nat} (h1 : x < 10000) (hm : m ≤ 1) (hz : ∀ j, m ≤ j → j < 1 → ([(x : Int)] : List Int).getD j 0 = 0) (hl : 0 < m → ([(x : Int)] : List Int).getD (m - 1) 0 ≠ 0) : m = (limbs x).length ∧ ([(x : Int)] : List Int).take m = limbs x := by
  by_cases h0 : x = 0
  · subst h0
    rw [limbs_zero]
    have : m = 0 := Nat.eq_zero_of_not_pos fun h => hl h (by
      obtain rfl : m = 1 := by omega
      rfl)
    subst this
    exact ⟨rfl, rfl⟩
  · rw [limbs_one_digit (by omega) h1]
    have : m ≠ 0 := fun h => by
      subst h
      have := hz 0 (by omega) (by omega)
      simp at this
      omega
    obtain rfl : m = 1 := by omega
    exact ⟨rfl, rfl⟩

set_option maxRecDepth 100000 in
set_option maxHeartbeats 2000000 in
theorem sub_11 (b o b' o' ca cb x y : Nat) (w : World) (hx : w.cell? ⟨b, o, none⟩ = some (.int .i64 x)) (hy : w.cell? ⟨b', o', none⟩ = some (.int .i64 y)) (hbl : b < w.heap.size) (hbl' : b' < w.heap.size) (h1 : x < 10000) (h2 : y ≤ x) (h4 : 0 < y) (hca : 1 ≤ ca) (hcb : 1 ≤ cb) (hca2 : ca ≤ 9223372036854775807) (hcb2 : cb ≤ 9223372036854775807) :
    Calls Tryd.prog 86 #[.agg #[.bool false, .slice (some ⟨b, o, none⟩) 1 ca], .agg #[.bool true, .slice (some ⟨b', o', none⟩) 1 cb]] w fun e w' => ∃ v, e = .returned v ∧ ZVal w.heap.size false (x - y) w' v ∧ Below w.heap.size w w' := by
  obtain ⟨i0, hi, hz0, hz1, hz2⟩ := info_parts Tryd.info2
  have HX := Lib.hid hx
  have HY := Lib.hid hy
  clear hx hy
  have hW := three_below w #[.bool false, .slice (some ⟨b, o, none⟩) 1 ca] #[.bool true, .slice (some ⟨b', o', none⟩) 1 cb] #[.bool false, .slice none 0 0] 45 45 45
  have HW := Lib.hid hW
  have hfar := far_11 false true b o b' o' ca cb x y _ ((hW.cell (p := ⟨b, o, none⟩) hbl).trans HX.out) ((hW.cell (p := ⟨b', o', none⟩) hbl').trans HY.out) (by simp; omega) (by simp; omega) h1 (by omega)
  have HFar := Lib.hid hfar
  clear hW hfar
  go_enter Tryd.func86, Tryd.ntmps86
  go_wp2_with fail
  refine HFar.out.mono ?_
  rintro e w2 ⟨rfl, hb2⟩
  have hb3 := hb2.mono (B' := w.heap.size + 3) (by simp)
  have HB3 := Lib.hid hb3
  have p0 := (own3 hb3 0).1
  have p1 := (own3 hb3 1).1
  have q0 := (own3 hb3 0).2.1
  have q1 := (own3 hb3 1).2.1
  have hsz := (own3 hb3 0).2.2.2.2
  clear hb2 hb3
  simp only [List.getElem?_toArray, List.getElem?_cons_zero, List.getElem?_cons_succ] at p0 p1 q0 q1
  have hcm : (cmpN x y < 0) = False := by
    unfold cmpN
    rw [if_neg (by omega)]
    split <;> simp
  have hcm0 : (0 : Int) ≤ cmpN x y := by
    unfold cmpN
    rw [if_neg (by omega)]
    split <;> simp
  clear hcm
  have hstart : (w2.alloc (.cells #[] 2)).ownsRow (w.heap.size + 3) 2 1 (.slice (some ⟨w2.heap.size, 0, none⟩) 0 0) 0 [] := World.ownsRow_made (base := w.heap.size + 3) (e := 2) (size := 1) w2 #[] 0 (by omega) (by simp [maxLen]) rfl
  have HStart := Lib.hid hstart
  clear hstart
  go_wp2
  clear p0 p1 q0 q1
  go_loopw [8, 9, 10] (fun d c i wr => c = .int .i64 0 ∧ ((i = .int .i64 0 ∧ wr.ownsRow (w.heap.size + 3) 2 1 d 0 []) ∨ (i = .int .i64 1 ∧ wr.ownsRow (w.heap.size + 3) 2 1 d [((x - y : Nat) : Int)].length ([((x - y : Nat) : Int)].map (Value.int .i64)))) ∧ Below (w.heap.size + 3) (((w.alloc (.cells #[.bool false, .slice (some ⟨b, o, none⟩) 1 ca] 45)).alloc (.cells #[.bool true, .slice (some ⟨b', o', none⟩) 1 cb] 45)).alloc (.cells #[.bool false, .slice none 0 0] 45)) wr) (fun _ _ i _ => (1 - intOf i).toNat)
  case atStart => exact ⟨rfl, .inl ⟨rfl, HStart.out⟩, HB3.out.alloc (by omega) _⟩
  case round =>
    obtain ⟨rfl, hi2, hb⟩ := hrel
    have HB := Lib.hid hb
    have HF : Hid (Below w.heap.size w wr) := HW.out.trans (hb.mono (by omega))
    have p0 := (own3 hb 0).1
    have p1 := (own3 hb 1).1
    have q0 := (own3 hb 0).2.1
    have q1 := (own3 hb 1).2.1
    have r0 := (own3 hb 0).2.2.1
    have r1 := (own3 hb 1).2.2.1
    have z0 := (own3 hb 0).2.2.2.1
    have z1 := (own3 hb 1).2.2.2.1
    have hszr := (own3 hb 0).2.2.2.2
    clear hb
    simp only [List.getElem?_toArray, List.getElem?_cons_zero, List.getElem?_cons_succ] at p0 p1 q0 q1 r0 r1
    rcases hi2 with ⟨rfl, hown⟩ | ⟨rfl, hown⟩
    · have cx := (HF.out.cell (p := ⟨b, o, none⟩) hbl).trans HX.out
      have cy := (HF.out.cell (p := ⟨b', o', none⟩) hbl').trans HY.out
      clear r0 r1 z0 z1
      go_wp2_with (first | (at_builtin; refine wpList_append_own _ rfl _ _ 43 rfl (w.heap.size + 3) 2 i0 (.int .i64 0) 1 8 Tryd.underlying43 hi hz0 hz1 hz2 rfl (by decide) _ _ _ rfl (hown.alloc _) ⟨wr.heap.size, 0, none⟩ 1 1 [.int .i64 ((x : Int) - (y : Int))] rfl rfl ?c1 ?c2 ?c3 ?c4 ?c5 ?_))
      case c1 => exact one_at _ _ _
      case c2 => first | rfl | (intro u hu; simp at hu; subst hu; rfl)
      case c3 => unfold maxLen; omega
      case c4 => omega
      case c5 => first | omega | (simp; omega)
      intro v' w5 hown' hgrow _
      have ho : w5.ownsRow (w.heap.size + 3) 2 1 v' [((x - y : Nat) : Int)].length ([((x - y : Nat) : Int)].map (Value.int .i64)) := by
        have e : ((x : Int) - (y : Int)) = ((x - y : Nat) : Int) := by omega
        rw [e] at hown'
        simpa using hown'
      have HO := Lib.hid ho
      clear ho
      have HB5 : Hid (Below (w.heap.size + 3) (((w.alloc (.cells #[.bool false, .slice (some ⟨b, o, none⟩) 1 ca] 45)).alloc (.cells #[.bool true, .slice (some ⟨b', o', none⟩) 1 cb] 45)).alloc (.cells #[.bool false, .slice none 0 0] 45)) w5) :=
        (HB.out.alloc (by omega) _).grown hgrow (by simp; omega) (fun k hk => (hown.lt k hk).1)
      clear hown' hgrow hown
      go_wp2
      go_roundw
      case rel => exact ⟨rfl, .inr ⟨by go_num, HO.out⟩, HB5.out⟩
      case measure => simp [intOf]
    · obtain ⟨ao, cap, rfl, hrow, hnone, hlc, hcap⟩ := own_view hown
      have HRow := Lib.hid hrow
      have HNone := Lib.hid hnone
      clear hown hrow hnone
      simp only [List.length_cons, List.length_nil, Nat.zero_add] at hlc
      simp only [List.length_cons, List.length_nil, Nat.zero_add]
      go_wp2_with fail
      refine (cut_any _ ao [((x - y : Nat) : Int)] cap _ (HRow.out.low (Nat.zero_le _)) HNone.out hlc hcap).mono ?_
      rintro e w6 ⟨m, hm, rfl, hz, hlast, hb6⟩
      obtain ⟨hm2, htake⟩ := cut1 (x := x - y) (by omega) hm hz hlast
      have hrow2 := (HRow.out.keep hb6).take m
      rw [htake] at hrow2
      subst hm2
      have HR2 := Lib.hid hrow2
      have HNone2 := Lib.hid HNone.out
      have p0' := (hb6.cell (p := ⟨w.heap.size + 1 + 1, 0, none⟩) (show w.heap.size + 1 + 1 < _ by omega)).trans r0
      have p1' := (hb6.cell (p := ⟨w.heap.size + 1 + 1, 1, none⟩) (show w.heap.size + 1 + 1 < _ by omega)).trans r1
      have q0' := (hb6.frozen (p := ⟨w.heap.size + 1 + 1, 0, none⟩) (show w.heap.size + 1 + 1 < _ by omega)).trans z0
      have q1' := (hb6.frozen (p := ⟨w.heap.size + 1 + 1, 1, none⟩) (show w.heap.size + 1 + 1 < _ by omega)).trans z1
      have hs2 : w.heap.size + 1 + 1 < w6.heap.size := Nat.lt_of_lt_of_le (show w.heap.size + 1 + 1 < wr.heap.size by omega) hb6.size
      have HF2 : Hid (Below w.heap.size w w6) := HF.out.trans (hb6.mono (by omega))
      have HM1 : Hid ((limbs (x - y)).length ≤ 1) := by
        show (limbs (x - y)).length ≤ 1
        simpa using hm
      clear hm hz hlast hb6 hrow2 htake p0 p1 q0 q1 r0 r1 z0 z1
      go_wp2
      refine bodyPost_ret (v := .agg #[.bool false, .slice ao (limbs (x - y)).length cap]) (by simp [results, Tryd.results86, go_sem, p0', p1']) rfl ⟨_, rfl, ⟨ao, cap, by simp, ⟨?_, HNone.out, Nat.le_trans HM1.out hlc, hcap⟩⟩, ?_⟩
      · exact ((HR2.out.set (by show w.heap.size + 1 + 1 < _; omega) _).set (by show w.heap.size + 1 + 1 < _; omega) _).low (by omega)
      · exact (HF2.out.setCell (by show w.heap.size ≤ w.heap.size + 1 + 1; omega) _).setCell (by show w.heap.size ≤ w.heap.size + 1 + 1; omega) _

end Go.Proofs.YthmjcjoecelnmaaDoor
