/-
  The reference's RecoverJournal by its contract. No condition.
-/
import Derived.Test.YthmjcjoecelnmaaDoorRd
import Derived.Deep.RegionWith
import Derived.Deep.CutRange
namespace Go.Proofs.YthmjcjoecelnmaaDoor
open Go.RowKit
set_option linter.unusedVariables false

/-- The bytes of these lines with their newlines. -/
def tot : List (List UInt8) → Nat
  | [] => 0
  | a :: r => a.length + 1 + tot r
theorem tot_lns (l : List UInt8) : ∀ acc, tot (lns acc l) ≤ acc.length + l.length := by
  induction l with
  | nil => intro acc; simp [lns, tot]
  | cons b r ih =>
    intro acc
    simp only [lns]
    split
    · have := ih []
      simp [tot] at *; omega
    · have := ih (acc ++ [b])
      simp at *; omega

/-- What holds at each round's head. -/
def SLoop (l : List UInt8) (n : Int) (i S : Nat) (L : List (List UInt8)) : Prop :=
  i ≤ (lns [] l).length ∧ L.length ≤ i ∧ 0 ≤ n ∧ n < 9973 ∧ texts l = L ++ rcv n ((lns [] l).drop i) ∧ taken l = S + rsz n ((lns [] l).drop i) ∧ S + tot ((lns [] l).drop i) ≤ 4000

theorem SLoop.start {l : List UInt8} (h : l.length ≤ 4000) : SLoop l 0 0 0 [] := by
  refine ⟨Nat.zero_le _, Nat.le_refl _, Int.le_refl _, by omega, rfl, by unfold taken; simp, ?_⟩
  have := tot_lns l []
  simp at this ⊢
  omega

theorem SLoop.done {l : List UInt8} {n : Int} {i S : Nat} {L : List (List UInt8)} (h : SLoop l n i S L) (hi : ¬ i < (lns [] l).length) : L = texts l ∧ S = taken l := by
  obtain ⟨h0, h3, h4, h5, h1, h2, h6⟩ := h
  rw [List.drop_of_length_le (by omega)] at h1 h2
  exact ⟨by rw [h1]; simp [rcv], by rw [h2]; simp [rsz]⟩

theorem drop_getD {ls : List (List UInt8)} {i : Nat} (h : i < ls.length) : ls.drop i = ls.getD i [] :: ls.drop (i + 1) := by
  rw [List.drop_eq_getElem_cons h, List.getD_eq_getElem?_getD, List.getElem?_eq_getElem h]
  rfl

theorem SLoop.len {l : List UInt8} {n : Int} {i S : Nat} {L : List (List UInt8)} (h : SLoop l n i S L) (hi : i < (lns [] l).length) : S + ((lns [] l).getD i []).length + 1 ≤ 4000 := by
  obtain ⟨h0, h3, h4, h5, h1, h2, h6⟩ := h
  rw [drop_getD hi] at h6
  simp only [tot] at h6
  omega

theorem SLoop.stop {l : List UInt8} {n : Int} {i S : Nat} {L : List (List UInt8)} (h : SLoop l n i S L) (hi : i < (lns [] l).length) (hs : 32 ∉ (lns [] l).getD i []) : L = texts l ∧ S = taken l := by
  obtain ⟨h0, h3, h4, h5, h1, h2, h6⟩ := h
  rw [drop_getD hi] at h1 h2
  simp only [rcv, rsz, spl_none _ hs] at h1 h2
  exact ⟨by rw [h1]; simp, by rw [h2]; simp⟩

theorem SLoop.bad {l : List UInt8} {n : Int} {i S : Nat} {L : List (List UInt8)} {a t : List UInt8} (h : SLoop l n i S L) (hi : i < (lns [] l).length) (he : (lns [] l).getD i [] = a ++ 32 :: t) (hs : 32 ∉ a) (hne : a ≠ Lib.itoa (chk n t)) : L = texts l ∧ S = taken l := by
  obtain ⟨h0, h3, h4, h5, h1, h2, h6⟩ := h
  rw [drop_getD hi, he] at h1 h2
  simp only [rcv, rsz, spl_cut _ _ hs] at h1 h2
  rw [if_neg hne] at h1 h2
  exact ⟨by rw [h1]; simp, by rw [h2]; simp⟩

theorem SLoop.good {l : List UInt8} {n : Int} {i S : Nat} {L : List (List UInt8)} {a t : List UInt8} (h : SLoop l n i S L) (hi : i < (lns [] l).length) (he : (lns [] l).getD i [] = a ++ 32 :: t) (hs : 32 ∉ a) (heq : a = Lib.itoa (chk n t)) : SLoop l (chk n t) (i + 1) (S + (((lns [] l).getD i []).length + 1)) (L ++ [t]) := by
  obtain ⟨h0, h3, h4, h5, h1, h2, h6⟩ := h
  rw [drop_getD hi] at h1 h2 h6
  simp only [tot] at h6
  simp only [rcv, rsz, he, spl_cut _ _ hs] at h1 h2
  rw [if_pos heq] at h1 h2
  refine ⟨by omega, by simp; omega, (chk_range t n h4 h5).1, (chk_range t n h4 h5).2, by rw [h1]; simp, ?_, by omega⟩
  rw [h2, he]
  simp only [List.length_append, List.length_cons]
  omega

theorem take_clean {a : List UInt8} {k : Nat} (h : 32 ∉ a.take k) (hk : k < a.length) (hne : a.getD k 0 ≠ 32) : 32 ∉ a.take (k + 1) := by
  rw [List.take_succ_eq_append_getElem hk]
  rw [List.getD_eq_getElem?_getD, List.getElem?_eq_getElem hk] at hne
  simp only [Option.getD_some] at hne
  intro hm
  rcases List.mem_append.1 hm with h1 | h1
  · exact h h1
  · simp at h1; exact hne h1.symm

theorem split_at {a : List UInt8} {k : Nat} (hk : k < a.length) (he : a.getD k 0 = 32) : a = a.take k ++ 32 :: a.drop (k + 1) := by
  rw [List.getD_eq_getElem?_getD, List.getElem?_eq_getElem hk] at he
  simp only [Option.getD_some] at he
  conv => lhs; rw [← List.take_append_drop k a, List.drop_eq_getElem_cons hk, he]

theorem byte_of {l : List UInt8} {k : Nat} (hk : k < l.length) (c : UInt8) (b : Bool) (h : (((⟨l.toArray⟩ : ByteArray)[k].toNat : Int) != (c.toNat : Int)) = b) : (l.getD k 0 != c) = b := by
  rw [List.getD_eq_getElem?_getD, List.getElem?_eq_getElem hk]
  simp only [Option.getD_some]
  have e2 : (⟨l.toArray⟩ : ByteArray)[k] = l[k] := rfl
  rw [e2] at h
  rw [← h]
  cases hb : (l[k] != c)
  · have : l[k] = c := by simpa using hb
    rw [this]; simp
  · have h1 : l[k] ≠ c := by simpa using hb
    symm
    rw [bne_iff_ne]
    intro e
    exact h1 (UInt8.toNat_inj.1 (by omega))

theorem extract_take (l : List UInt8) (A : Nat) : (⟨l.toArray⟩ : ByteArray).extract 0 A = ⟨(l.take A).toArray⟩ := by
  apply bytes_eq
  rw [Lib.extract_data]
  simp

theorem own_low {w : World} {base base' : Nat} {e : TypeId} {size : Nat} {v : Value} {n : Nat} {xs : List Value} (h : w.ownsRow base e size v n xs) (hb : base' ≤ base) : w.ownsRow base' e size v n xs := by
  refine ⟨h.1, ?_⟩
  rcases h.2 with hn | ⟨g, cap, cur, hv, hg, hrest⟩
  · exact .inl hn
  · exact .inr ⟨g, cap, cur, hv, Nat.le_trans hb hg, hrest⟩

set_option maxRecDepth 100000 in
set_option maxHeartbeats 1000000 in
theorem specRec_any (l : List UInt8) (w : World) :
    Calls Tryd.prog 9 #[.string ⟨l.toArray⟩] w (RecRes l w) := by
  obtain ⟨i0, hi, hz0, hz1, hz2⟩ := info_parts Tryd.info9
  by_cases hl : 4000 < l.length
  · have HL := Lib.hid hl
    go_enter Tryd.func9, Tryd.ntmps9
    go_wp2
    exact bodyPost_ret (v := .tuple #[.slice none 0 0, .int .i64 0, .bool false]) (by simp [results, Tryd.results9, go_sem]) rfl (.inl ⟨HL.out, rfl, Below.refl _ _⟩)
  have hl2 : l.length ≤ 4000 := by omega
  clear hl
  go_enter Tryd.func9, Tryd.ntmps9
  go_wp2_with fail
  refine (lines_any l _ hl2).mono ?_
  rintro e w1 ⟨ao, cap, rest, rfl, hT, hn, hlc, hcap, hb1⟩
  have HT := Lib.hid hT
  have HN := Lib.hid hn
  have HB1 := Lib.hid hb1
  have hnl : (lns [] l).length ≤ 4000 := Nat.le_trans (lns_length l []) hl2
  have HS0 := Lib.hid (SLoop.start hl2)
  clear hT hn hb1
  go_wp2
  have hstart : (w1.alloc (.cells #[] 9)).ownsRow w1.heap.size 9 1 (.slice (some ⟨w1.heap.size, 0, none⟩) 0 0) 0 [] := by
    have h := World.ownsRow_made (base := w1.heap.size) (e := 9) (size := 1) w1 #[] 0 (by simp) (by simp [maxLen]) rfl
    exact h
  have HStart := Lib.hid hstart
  clear hstart
  generalize hls : lns [] l = ls at *
  have Hls := Lib.hid hls
  clear hls
  go_loopg [7, 8, 9, 10] (ls.length) (fun g v n s i wr => ∃ I S : Nat, ∃ N : Int, ∃ L : List (List UInt8), g + I = ls.length ∧ n = .int .i64 N ∧ s = .int .i64 S ∧ i = .int .i64 I ∧ SLoop l N I S L ∧ wr.ownsRow w1.heap.size 9 1 v L.length (L.map sv) ∧ Below w1.heap.size w1 wr)
  case atStart => exact ⟨0, 0, 0, [], rfl, rfl, rfl, rfl, HS0.out, HStart.out, (Below.refl _ _).alloc (by simp) _⟩
  case round =>
    obtain ⟨I, S, N, L, hg, rfl, rfl, rfl, hZ, hown, hb⟩ := hrel
    have HZ := Lib.hid hZ
    have HB := Lib.hid hb
    have HOwn := Lib.hid hown
    obtain ⟨b0, b1, b3, b4, -, -, b5⟩ := hZ
    rw [Hls.out] at b0
    have hsz := hb.size
    clear hb hown
    by_cases hlt : I < ls.length
    · obtain ⟨b, o, rfl, -, hbl, hc⟩ := HT.out (by omega)
      have c0 := (HB.out.cell (p := ⟨b, o + I, none⟩) hbl).trans (hc I hlt)
      have b6 := HZ.out.len (by rw [Hls.out]; exact hlt)
      rw [Hls.out] at b6
      clear hc
      generalize ha : ls.getD I [] = a at *
      have HA := Lib.hid ha
      clear ha
      unfold sv at c0
      go_wp2
      go_loop [11] (fun c => ∃ k : Nat, c = .int .i64 k ∧ k ≤ a.length ∧ 32 ∉ a.take k) (fun c => a.length - (intOf c).toNat)
      case atStart => exact ⟨0, rfl, Nat.zero_le _, by simp⟩
      case round =>
        obtain ⟨k, rfl, hk, hcl⟩ := hrel
        have HCl := Lib.hid hcl
        clear hcl
        by_cases hka : k < a.length
        · go_wp2_with fail
          case roundEnd =>
            have hbt : (((⟨a.toArray⟩ : ByteArray)[k].toNat : Int) != 32) = true := by assumption
            have hne : a.getD k 0 ≠ 32 := by simpa using byte_of hka 32 true hbt
            go_round
            case rel => exact ⟨k + 1, by go_num, by omega, take_clean HCl.out hka hne⟩
            case measure => simp [intOf] <;> omega
          have hbt : (((⟨a.toArray⟩ : ByteArray)[k].toNat : Int) != 32) = false := by assumption
          have he : a.getD k 0 = 32 := by simpa using byte_of hka 32 false hbt
          have hsplit := split_at hka he
          have HE1 : Hid ((⟨a.toArray⟩ : ByteArray).extract (k + 1) a.length = ⟨(a.drop (k + 1)).toArray⟩) := extract_rest a (k + 1)
          have HE0 : Hid ((⟨a.toArray⟩ : ByteArray).extract 0 k = ⟨(a.take k).toArray⟩) := extract_take a k
          have HSp := Lib.hid hsplit
          have htl : (a.drop (k + 1)).length ≤ 4000 := by simp; omega
          clear hbt he hsplit
          generalize ht : a.drop (k + 1) = t at *
          have Ht := Lib.hid ht
          clear ht
          rw [HE1.out]
          refine (specCheck_any N ⟨t.toArray⟩ _ b3 b4 (by simpa [ByteArray.size] using htl)).mono ?_
          rintro e w2 ⟨rfl, hw2⟩
          subst hw2
          obtain ⟨d0, d1⟩ := chk_range t N b3 b4
          generalize hM : chk N t = M at *
          have HM := Lib.hid hM
          clear hM
          go_upto_region 16 with fail
          go_cut [72] from 22 to 84 (fun c wx => c = .bool (!(a.take k == Lib.itoa M)) ∧ Below w2.heap.size w2 wx)
          case first =>
            go_region_with (first | (go_at_call 24; refine (int_any M _ (by omega) (by omega)).mono ?_; rintro e w3 ⟨v3, rfl, hq3, hb30⟩; have hb3 : Below w2.heap.size w2 w3 := ((Below.refl _ w2).drew).trans hb30; have c1 := (hb3.cell (p := ⟨b, o + I, none⟩) (Nat.lt_of_lt_of_le hbl hsz)).trans c0; have HQ3 : Hid (QVal 0 (decide (M < 0)) M.natAbs 1 w3 v3) := qval_low hq3 (Nat.zero_le _); have HB3 := Lib.hid hb3; clear hq3 hb30 hb3) | (go_at_call 23; refine (textInt_any M _ _ HQ3.out (by omega) (by omega)).mono ?_; rintro e w4 ⟨rfl, hb4⟩; have c2 := (hb4.cell (p := ⟨b, o + I, none⟩) (Nat.lt_of_lt_of_le (Nat.lt_of_lt_of_le hbl hsz) HB3.out.size)).trans c1; have HB4 : Hid (Below w2.heap.size w2 w4) := HB3.out.trans (hb4.mono HB3.out.size); clear hb4))
            all_goals (try go_wp2_with fail)
            all_goals go_meet
            all_goals exact ⟨by rw [HE0.out]; simp, HB4.out⟩
          case rest =>
            obtain ⟨hcu, hbc⟩ := hcut
            have c3 := (hbc.cell (p := ⟨b, o + I, none⟩) (Nat.lt_of_lt_of_le hbl hsz)).trans c0
            have HBC : Hid (Below w1.heap.size w1 wc) := HB.out.trans (hbc.mono hsz)
            have hown := own_keep HOwn.out hbc
            have hszc := HBC.out.size
            clear hbc
            by_cases hh : a.take k = Lib.itoa M
            · have hh2 : (a.take k == Lib.itoa M) = true := by simpa using hh
              rw [hh2, Bool.not_true] at hcu
              subst hcu
              clear hh2
              have HG := Lib.hid (HZ.out.good (by rw [Hls.out]; exact hlt) (by rw [Hls.out]; exact HA.out.trans HSp.out) HCl.out (by rw [HM.out]; exact hh))
              clear hh
              go_wp2_with (first | (at_builtin; refine wpList_append_own _ rfl _ _ 24 rfl w1.heap.size 9 i0 (.string ⟨#[]⟩) 1 16 Tryd.underlying24 hi hz0 hz1 hz2 rfl (by decide) _ _ _ rfl (hown.alloc _) ⟨wc.heap.size, 0, none⟩ 1 1 [sv t] rfl rfl ?c1 ?c2 ?c3 ?c4 ?c5 ?_))
              case c1 => exact one_at _ _ _
              case c2 => first | rfl | (intro u hu; simp at hu; subst hu; rfl)
              case c3 => unfold maxLen; omega
              case c4 => omega
              case c5 => first | omega | (simp; omega)
              intro v' w5 hown' hgrow _
              have ho : w5.ownsRow w1.heap.size 9 1 v' (L ++ [t]).length ((L ++ [t]).map sv) := by
                simpa using hown'
              have HO := Lib.hid ho
              clear ho
              have HB5 : Hid (Below w1.heap.size w1 w5) :=
                (HBC.out.alloc hszc _).grown hgrow (by simp; omega) (fun k hk => (hown.lt k hk).1)
              have c4 : w5.cell? ⟨b, o + I, none⟩ = some (.string ⟨a.toArray⟩) := (HB5.out.cell (p := ⟨b, o + I, none⟩) hbl).trans ((HB.out.cell (p := ⟨b, o + I, none⟩) hbl).symm.trans c0)
              clear hown' hgrow hown
              go_wp2
              go_roundg (ls.length - (I + 1))
              case measure => omega
              case rel =>
                have hg2 := HG.out
                rw [HM.out, Hls.out, HA.out] at hg2
                exact ⟨I + 1, S + (a.length + 1), M, L ++ [t], by omega, rfl, by go_num, by go_num, hg2, HO.out, HB5.out⟩
            · obtain ⟨rfl, rfl⟩ := HZ.out.bad (by rw [Hls.out]; exact hlt) (by rw [Hls.out]; exact HA.out.trans HSp.out) HCl.out (by rw [HM.out]; exact hh)
              have hh2 : (a.take k == Lib.itoa M) = false := by simpa using hh
              rw [hh2, Bool.not_false] at hcu
              subst hcu
              clear hh2
              have HO2 : Hid (wc.ownsRow w.heap.size 9 1 u7 (texts l).length ((texts l).map sv)) := own_low hown HB1.out.size
              have HB6 : Hid (Below w.heap.size w wc) := HB1.out.trans (HBC.out.mono HB1.out.size)
              clear hh hown
              go_wp2
              exact bodyPost_ret (v := .tuple #[u7, .int .i64 (taken l), .bool true]) (by simp [results, Tryd.results9, go_sem]) rfl (.inr ⟨hl2, _, rfl, HO2.out, HB6.out⟩)
        · obtain rfl : k = a.length := by omega
          obtain ⟨rfl, rfl⟩ := HZ.out.stop (by rw [Hls.out]; exact hlt) (by rw [Hls.out, HA.out]; have := HCl.out; rw [List.take_of_length_le (Nat.le_refl _)] at this; exact this)
          have HO2 : Hid (wr.ownsRow w.heap.size 9 1 u7 (texts l).length ((texts l).map sv)) := own_low HOwn.out HB1.out.size
          have HB6 : Hid (Below w.heap.size w wr) := HB1.out.trans (HB.out.mono HB1.out.size)
          go_wp2
          exact bodyPost_ret (v := .tuple #[u7, .int .i64 (taken l), .bool true]) (by simp [results, Tryd.results9, go_sem]) rfl (.inr ⟨hl2, _, rfl, HO2.out, HB6.out⟩)
    · obtain ⟨rfl, rfl⟩ := HZ.out.done (by rw [Hls.out]; exact hlt)
      have HO2 : Hid (wr.ownsRow w.heap.size 9 1 u7 (texts l).length ((texts l).map sv)) := own_low HOwn.out HB1.out.size
      have HB6 : Hid (Below w.heap.size w wr) := HB1.out.trans (HB.out.mono HB1.out.size)
      go_wp2
      exact bodyPost_ret (v := .tuple #[u7, .int .i64 (taken l), .bool true]) (by simp [results, Tryd.results9, go_sem]) rfl (.inr ⟨hl2, _, rfl, HO2.out, HB6.out⟩)

end Go.Proofs.YthmjcjoecelnmaaDoor
