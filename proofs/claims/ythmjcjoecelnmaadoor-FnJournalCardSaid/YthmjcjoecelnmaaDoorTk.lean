/-
  The walk of FnJournal: it returns true, and old memory stays as it was.
-/
import Derived.Test.YthmjcjoecelnmaaDoorTj
import Derived.Deep.RegionHeld3
namespace Go.Proofs.YthmjcjoecelnmaaDoor
open Go.RowKit
set_option linter.unusedVariables false

theorem at_lit (ao : Option Addr) (n cap : Nat) (i : Int) (p : Nat) (w : World) (hn : n ≤ 1048576) (h0 : 0 ≤ i) (hi : i ≤ 2) (hb : BytesAt p w ao n) :
    Calls Tryd.prog 21 #[.slice ao n cap, .int .i64 i, .int .i64 256] w fun e w' => ByteRes e ∧ w' = w := by
  obtain ⟨k, rfl⟩ := Int.eq_ofNat_of_zero_le h0
  exact at_any ao n cap k p w hn (by omega) hb

theorem byte_run2 (z : Nat) (h1 : z < 256) (W : World) :
    (convert 34 9 (.slice (some ⟨W.heap.size, 0, none⟩) 1 1)).run Tryd.prog (W.alloc (.cells #[.int .u8 (z : Int)] 5)).drew = .ok (.string ⟨([UInt8.ofNat z] : List UInt8).toArray⟩) (W.alloc (.cells #[.int .u8 (z : Int)] 5)).drew :=
  byte_run z h1 W.drew

theorem byte_run3 (z : Nat) (h1 : z < 256) (W : World) :
    (convert 34 9 (.slice (some ⟨W.heap.size, 0, none⟩) 1 1)).run Tryd.prog (W.alloc (.cells #[.int .u8 (IntKind.u8.wrap (z : Int))] 5)).drew = .ok (.string ⟨([UInt8.ofNat z] : List UInt8).toArray⟩) (W.alloc (.cells #[.int .u8 (IntKind.u8.wrap (z : Int))] 5)).drew := by
  rw [IntWalk.u8_in (z : Int) ⟨by omega, by omega⟩]
  exact byte_run z h1 W.drew

set_option maxRecDepth 100000 in
set_option maxHeartbeats 2000000 in
theorem journal_walk (ao mo : Option Addr) (n ca m cm : Nat) (w : World) (hn0 : n ≤ 9223372036854775807) (hm0 : m ≤ 9223372036854775807) (hnc : n ≤ ca) (hmc : m ≤ cm) (hcode : BytesAt w.heap.size w ao n) (hmore : BytesAt w.heap.size w mo m) (ht : Tab w) :
    Calls Tryd.prog 6 #[.slice ao n ca, .slice mo m cm] w fun e w' => e = .returned (.bool true) ∧ Below w.heap.size w w' := by
  have HCode := Lib.hid hcode
  have HMore := Lib.hid hmore
  have HTab := Lib.hid ht
  clear hcode hmore ht
  go_enter Tryd.func6, Tryd.ntmps6
  go_wp2_with fail
  refine (long_any ao mo n ca m cm _ hn0 hm0).mono ?_
  rintro e w0 ⟨rfl, hw0⟩
  subst hw0
  generalize hbig : (decide (1048576 < n) || decide (1048576 < m)) = big
  cases big
  case true =>
    clear hbig
    go_wp2
    go_ret
    exact ⟨rfl, Below.refl _ _⟩
  have hn : n ≤ 1048576 := by
    simp only [Bool.or_eq_false_iff, decide_eq_false_iff_not] at hbig
    omega
  have hm : m ≤ 1048576 := by
    simp only [Bool.or_eq_false_iff, decide_eq_false_iff_not] at hbig
    omega
  clear hbig
  go_wp2_with fail
  refine (b10Desk_any mo m cm _ hm hmc HMore.out).mono ?_
  rintro e w1 ⟨no, ka, bo, kb, Ld, rfl, hld, htd, hcd, hb1⟩
  have HTd := Lib.hid htd
  have HCd := Lib.hid hcd
  have HB1 := Lib.hid hb1
  clear htd hcd hb1
  go_wp2_with fail
  refine (b10Lines_any ao no bo n ca ka kb Ld _ hn hnc (HCode.out.keep HB1.out.size HB1.out) (HTd.out.low (Nat.zero_le _)) hld HCd.out).mono ?_
  rintro e w2 ⟨lo, cl, Ls, rfl, htl, hlcl, hl5, hcl, hb2⟩
  have HTl := Lib.hid htl
  have HJ := Lib.hid (jok_lines Ls hl5 hcl)
  have HCl := Lib.hid hcl
  have HB2 := Lib.hid (HB1.out.trans (hb2.mono HB1.out.size))
  clear htl hcl hb2 HTd HCd HB1
  go_wp2_with fail
  refine (implJournalOf_any lo cl Ls _ HTl.out HJ.out.2 (HTab.out.keep HB2.out)).mono ?_
  rintro e w3 ⟨hres, hb3⟩
  have HB3 := Lib.hid (HB2.out.trans (hb3.mono HB2.out.size))
  have HTl3 := Lib.hid (HTl.out.keep hb3)
  rcases hres with ⟨-, rfl⟩ | ⟨hno, -⟩
  case inr => exact absurd HJ.out.1 hno
  have HPre := Lib.hid (fun K => texts_prefix Ls K (fun a ha => (HCl.out a ha).1))
  have hT4 := HJ.out.1.2
  have HPos := Lib.hid (jr_pos Ls)
  clear hb3 HB2 HTl HCl HJ
  by_cases hE : Ls = []
  · subst hE
    go_wp2
    go_ret
    exact ⟨rfl, HB3.out⟩
  have hTp := HPos.out hE
  generalize hT : jr 0 Ls = T at *
  clear hT HPos
  go_wp2_with fail
  refine (at_lit mo m cm 0 _ _ hm (by omega) (by omega) (HMore.out.keep HB3.out.size HB3.out)).mono ?_
  rintro e w4 ⟨⟨x, rfl, hx⟩, hw4⟩
  subst hw4
  go_wp2_with fail
  refine (at_lit mo m cm 1 _ _ hm (by omega) (by omega) (HMore.out.keep HB3.out.size HB3.out)).mono ?_
  rintro e w5 ⟨⟨y, rfl, hy⟩, hw5⟩
  subst hw5
  have hTi : (0 : Int) < (T.length : Int) := by omega
  go_upto_region 10 with fail
  generalize hZ : ((x : Int) * 256 + (y : Int)) % (T.length : Int) = Z at *
  obtain ⟨K, rfl⟩ : ∃ K : Nat, Z = K := ⟨Z.toNat, by
    have := Int.emod_nonneg ((x : Int) * 256 + (y : Int)) (show (T.length : Int) ≠ 0 by omega)
    omega⟩
  have hK : K < T.length := by
    have := Int.emod_lt_of_pos ((x : Int) * 256 + (y : Int)) hTi
    omega
  clear hZ hTi
  obtain ⟨k, hk, htx, hcnt⟩ := HPre.out K
  have hlen : (T.take K).length = K := by rw [List.length_take]; omega
  have hN := taken_le (T.take K)
  rw [hlen] at hN
  have hjr := jr_texts (T.take K)
  rw [htx, take_take_le T hN] at hjr
  have hjok := jok_texts (T.take K) (by omega)
  have hsm := texts_small (T.take K) (by omega)
  rw [htx] at hjok hsm
  have HMono := Lib.hid (fun s => taken_mono (T.take K) s)
  have HTx := Lib.hid htx
  have HCnt := Lib.hid hcnt
  have HJr := Lib.hid hjr
  have HJok := Lib.hid hjok
  have HSm := Lib.hid hsm
  have hMl : (Ls.take k).length = k := by rw [List.length_take]; omega
  have HMl := Lib.hid hMl
  have HLen := Lib.hid hlen
  generalize hNN : taken (T.take K) = N at *
  clear htx hcnt hjr hjok hsm hMl HPre hlen
  have HNN := Lib.hid hNN
  clear hNN
  have hmt : ∀ W, TxtAt 0 W lo Ls → TxtAt 0 W lo (Ls.take k) := fun W h => txt_take h k
  have HMt := Lib.hid hmt
  clear hmt
  generalize Ls.take k = M at *
  have hMl := HMl.out
  subst hMl
  clear HMl
  go_wp2_with fail
  rw [extract_take T K]
  refine (implRec_any (T.take K) _ (HTab.out.keep HB3.out)).mono ?_
  rintro e w6 hres
  have hlen := HLen.out
  rcases hres with ⟨hno, -⟩ | ⟨-, v6, rfl, ho6, hb6⟩
  · omega
  rw [HTx.out] at ho6
  rw [HNN.out]
  have HB6 := Lib.hid (HB3.out.trans (hb6.mono HB3.out.size))
  have HTl6 := Lib.hid (HTl3.out.keep hb6)
  obtain ⟨a6, c6, hv6⟩ := own_form ho6
  subst hv6
  have HTx6 := Lib.hid (own_txt ho6)
  clear ho6 hb6 HTl3 HB3 hlen
  go_wp2_with fail
  refine (implJournalOf_any a6 c6 M _ (HTx6.out.low (Nat.zero_le _)) HSm.out.1 (HTab.out.keep HB6.out)).mono ?_
  rintro e w7 ⟨hres, hb7⟩
  rcases hres with ⟨-, rfl⟩ | ⟨hno, -⟩
  case inr => exact absurd HJok.out hno
  rw [HJr.out]
  have HB7 := Lib.hid (HB6.out.trans (hb7.mono HB6.out.size))
  have HTl7 := Lib.hid (HTl6.out.keep hb7)
  have HTx7 := Lib.hid (HTx6.out.keep hb7)
  clear hb7 HTl6 HTx6 HB6
  go_wp2
  go_loop [14, 15] (fun v i => ∃ j : Nat, i = .int .i64 j ∧ j ≤ K ∧ v = .int .i64 ((T.take j).count 10 : Nat)) (fun _ i => K - (intOf i).toNat)
  case atStart => exact ⟨0, rfl, Nat.zero_le _, rfl⟩
  case round =>
    obtain ⟨j, rfl, hj, rfl⟩ := hrel
    by_cases hjK : j < K
    · have hjT : j < T.length := by omega
      have hcl : (T.take j).count 10 ≤ 4000 := Nat.le_trans (List.count_le_length) (by rw [List.length_take]; omega)
      have HStep := Lib.hid (count_step T j hjT)
      generalize hC : (T.take j).count 10 = c at *
      clear hC
      go_wp2_with fail
      · have hbt : (((⟨T.toArray⟩ : ByteArray)[j].toNat : Int) == 10) = true := by assumption
        have he : (T.getD j 0 == 10) = true := by simpa using byte_is hjT 10 true hbt
        go_round
        case rel => exact ⟨j + 1, by go_num, by omega, by rw [HStep.out, if_pos he]; go_num⟩
        case measure => simp [intOf]; omega
      · have hbt : (((⟨T.toArray⟩ : ByteArray)[j].toNat : Int) == 10) = false := by assumption
        have he : ¬ (T.getD j 0 == 10) = true := by
          have := byte_is hjT 10 false hbt
          simpa using this
        go_round
        case rel => exact ⟨j + 1, by go_num, by omega, by rw [HStep.out, if_neg he]; go_num⟩
        case measure => simp [intOf]; omega
    · obtain rfl : K = j := by omega
      rw [HCnt.out]
      obtain ⟨b, o, rfl, -⟩ := HTl7.out (List.length_pos_iff.2 hE)
      have hxN : (⟨T.toArray⟩ : ByteArray).extract 0 N = ⟨(T.take N).toArray⟩ := extract_take T N
      have hNT : N ≤ T.length := by omega
      have hMcl : M.length ≤ cl := by omega
      go_wp2_with fail
      refine (eqB_any a6 (some ⟨b, o, none⟩) c6 cl M _ (HTx7.out.low (Nat.zero_le _)) (HMt.out _ HTl7.out) (by have := HSm.out; omega)).mono ?_
      rintro e w8 ⟨rfl, hb8⟩
      have HB8 := Lib.hid (HB7.out.trans (hb8.mono HB7.out.size))
      have HMore8 := Lib.hid (HMore.out.keep HB8.out.size HB8.out)
      clear hb8 HTl7 HTx7 HB7 hxN
      go_upto_region 20 with fail
      have hK1 : (K : Int) + 1 ≤ (T.length : Int) := by omega
      have hK0 : (0 : Int) ≤ (K : Int) + 1 := by omega
      have hK2 : K + 1 ≤ T.length := by omega
      have hKi : (K : Int) ≤ (T.length : Int) := by omega
      have hKl : (K : Int) < (T.length : Int) := by omega
      have hw1 : IntKind.i64.wrap ((K : Int) + 1) = (K : Int) + 1 := IntWalk.i64_in _ ⟨by omega, by omega⟩
      obtain ⟨A, hA⟩ : ∃ A, A = T.take K := ⟨_, rfl⟩
      obtain ⟨B, hB⟩ : ∃ B, B = T.drop (K + 1) := ⟨_, rfl⟩
      have hx0 : (⟨T.toArray⟩ : ByteArray).extract 0 K = ⟨A.toArray⟩ := by rw [extract_take, hA]
      have hx1 : (⟨T.toArray⟩ : ByteArray).extract (K + 1) T.length = ⟨B.toArray⟩ := by rw [extract_rest, hB]
      have lA : A.length ≤ 4000 := by rw [hA, List.length_take]; omega
      have lB : B.length ≤ 4000 := by rw [hB, List.length_drop]; omega
      have HAB := Lib.hid (And.intro hA hB)
      clear hA hB
      go_region_held (fun w' => True) (trivial) (first | (go_at_call 21; refine (at_lit mo m cm 2 _ w8.drew hm (by omega) (by omega) (HMore8.out.keep (Nat.le_refl _) (Below.refl _ _).drew)).mono ?_; rintro e w9 ⟨⟨z, rfl, hz⟩, hw9⟩; subst hw9; have hcv := fun W => byte_run2 z hz W; have hcw := fun W => byte_run3 z hz W))
      have e3 : (⟨A.toArray⟩ : ByteArray) ++ (⟨#[UInt8.ofNat z]⟩ : ByteArray) ++ (⟨B.toArray⟩ : ByteArray) = ⟨(A ++ [UInt8.ofNat z] ++ B).toArray⟩ := by
        have e1 : (⟨#[UInt8.ofNat z]⟩ : ByteArray) = ⟨([UInt8.ofNat z] : List UInt8).toArray⟩ := rfl
        rw [e1, bytes_app, bytes_app]
      rw [e3]
      have hGl : (A ++ [UInt8.ofNat z] ++ B).length = T.length := by
        rw [HAB.out.1, HAB.out.2, List.length_append, List.length_append, List.length_take, List.length_drop, List.length_singleton]
        omega
      have hGm : N ≤ taken (A ++ [UInt8.ofNat z] ++ B) := by
        rw [List.append_assoc, HAB.out.1]
        exact HMono.out _
      have HB9 : Hid (Below w0.heap.size w0 (w8.alloc (.cells #[.int .u8 (z : Int)] 5)).drew) := (HB8.out.alloc HB8.out.size _).drew
      generalize A ++ [UInt8.ofNat z] ++ B = G at *
      generalize (w8.alloc (.cells #[.int .u8 (z : Int)] 5)).drew = w9 at *
      clear e3 hx0 hx1 lA lB HAB hcv hcw hK0 hK1 hK2 hKi hKl hw1 HMono
      have hG4 : G.length ≤ 4000 := by omega
      have hGt := taken_le G
      have hjr := jr_texts G
      have hjok := jok_texts G hG4
      have hsm := texts_small G hG4
      have HJrG := Lib.hid hjr
      have HJokG := Lib.hid hjok
      have HSmG := Lib.hid hsm
      clear hjr hjok hsm
      go_wp2_with fail
      refine (implRec_any G _ (HTab.out.keep HB9.out)).mono ?_
      rintro e w10 hres
      rcases hres with ⟨hno, -⟩ | ⟨-, v10, rfl, ho10, hb10⟩
      · omega
      have HB10 := Lib.hid (HB9.out.trans (hb10.mono HB9.out.size))
      obtain ⟨a10, c10, hv10⟩ := own_form ho10
      subst hv10
      have HTx10 := Lib.hid (own_txt ho10)
      clear ho10 hb10
      generalize hP : taken G = P at *
      clear hP
      go_wp2_with fail
      refine (implJournalOf_any a10 c10 (texts G) _ (HTx10.out.low (Nat.zero_le _)) HSmG.out.1 (HTab.out.keep HB10.out)).mono ?_
      rintro e w11 ⟨hres, hb11⟩
      rcases hres with ⟨-, rfl⟩ | ⟨hno, -⟩
      case inr => exact absurd HJokG.out hno
      rw [HJrG.out]
      have HB11 := Lib.hid (HB10.out.trans (hb11.mono HB10.out.size))
      clear hb11 HTx10 HB10
      have hxP : (⟨G.toArray⟩ : ByteArray).extract 0 P = ⟨(G.take P).toArray⟩ := extract_take G P
      go_wp2
      go_ret
      exact ⟨rfl, HB11.out⟩

end Go.Proofs.YthmjcjoecelnmaaDoor
