/-
  The program's RecoverJournal by its contract. Conditions: the library's table of powers of ten.
-/
import Derived.Test.YthmjcjoecelnmaaDoorRc
namespace Go.Proofs.YthmjcjoecelnmaaDoor
open Go.RowKit
set_option linter.unusedVariables false

theorem own_keep {w w' : World} {base : Nat} {e : TypeId} {size : Nat} {v : Value} {n : Nat} {xs : List Value} (h : w.ownsRow base e size v n xs) (hb : Below w.heap.size w w') : w'.ownsRow base e size v n xs := by
  refine ⟨h.1, ?_⟩
  rcases h.2 with hn | ⟨g, cap, cur, hv, hg, hh, hrest⟩
  · exact .inl hn
  · refine .inr ⟨g, cap, cur, hv, hg, ?_, hrest⟩
    rw [hb.block g (Array.getElem?_eq_some_iff.1 hh).1, hh]

/-- The texts that are recovered of a text, and how many bytes they take. -/
def texts (l : List UInt8) : List (List UInt8) := rcv 0 (lns [] l)
def taken (l : List UInt8) : Nat := rsz 0 (lns [] l)

/-- What RecoverJournal returns. -/
def RecRes (l : List UInt8) (w : World) (e : Ending) (w' : World) : Prop :=
  (4000 < l.length ∧ e = .returned (.tuple #[.slice none 0 0, .int .i64 0, .bool false]) ∧ Below w.heap.size w w') ∨
  (l.length ≤ 4000 ∧ ∃ v, e = .returned (.tuple #[v, .int .i64 (taken l), .bool true]) ∧ w'.ownsRow w.heap.size 9 1 v (texts l).length ((texts l).map sv) ∧ Below w.heap.size w w')

/-- What holds at each round's head: what is recovered so far, and what is left. -/
def RLoop (l : List UInt8) (n : Int) (A : Nat) (r : List UInt8) (L : List (List UInt8)) : Prop :=
  r = l.drop A ∧ A ≤ l.length ∧ L.length ≤ A ∧ 0 ≤ n ∧ n < 9973 ∧ texts l = L ++ rcv n (lns [] r) ∧ taken l = A + rsz n (lns [] r)

theorem RLoop.none {l : List UInt8} {n : Int} {A : Nat} {r : List UInt8} {L : List (List UInt8)} (h : RLoop l n A r L) (hn : 10 ∉ r) : L = texts l ∧ A = taken l := by
  obtain ⟨-, -, -, -, -, h1, h2⟩ := h
  rw [lns_none _ _ hn] at h1 h2
  exact ⟨by rw [h1]; simp [rcv], by rw [h2]; simp [rsz]⟩

theorem RLoop.stop {l : List UInt8} {n : Int} {A : Nat} {a r : List UInt8} {L : List (List UInt8)} (h : RLoop l n A (a ++ 10 :: r) L) (hn : 10 ∉ a) (hs : 32 ∉ a) : L = texts l ∧ A = taken l := by
  obtain ⟨-, -, -, -, -, h1, h2⟩ := h
  rw [lns_cut _ _ _ hn] at h1 h2
  simp only [rcv, rsz, List.nil_append, spl_none _ hs] at h1 h2
  exact ⟨by rw [h1]; simp, by rw [h2]; simp⟩

theorem RLoop.bad {l : List UInt8} {n : Int} {A : Nat} {a t r : List UInt8} {L : List (List UInt8)} (h : RLoop l n A ((a ++ 32 :: t) ++ 10 :: r) L) (hn : 10 ∉ a ++ 32 :: t) (hs : 32 ∉ a) (hne : a ≠ Lib.itoa (chk n t)) : L = texts l ∧ A = taken l := by
  obtain ⟨-, -, -, -, -, h1, h2⟩ := h
  rw [lns_cut _ _ _ hn] at h1 h2
  simp only [rcv, rsz, List.nil_append, spl_cut _ _ hs] at h1 h2
  rw [if_neg hne] at h1 h2
  exact ⟨by rw [h1]; simp, by rw [h2]; simp⟩

theorem RLoop.good {l : List UInt8} {n : Int} {A : Nat} {a t r : List UInt8} {L : List (List UInt8)} (h : RLoop l n A ((a ++ 32 :: t) ++ 10 :: r) L) (hn : 10 ∉ a ++ 32 :: t) (hs : 32 ∉ a) (he : a = Lib.itoa (chk n t)) : RLoop l (chk n t) (A + (a ++ 32 :: t).length + 1) r (L ++ [t]) := by
  obtain ⟨h0, h3, h4, h5, h6, h1, h2⟩ := h
  rw [lns_cut _ _ _ hn] at h1 h2
  simp only [rcv, rsz, List.nil_append, spl_cut _ _ hs] at h1 h2
  rw [if_pos he] at h1 h2
  have hlen := congrArg List.length h0
  simp only [List.length_append, List.length_cons, List.length_drop] at hlen
  refine ⟨?_, by simp; omega, by simp; omega, (chk_range t n h5 h6).1, (chk_range t n h5 h6).2, by rw [h1]; simp, by rw [h2]; simp; omega⟩
  have h7 : l.drop (A + (a ++ 32 :: t).length + 1) = (l.drop A).drop ((a ++ 32 :: t).length + 1) := by rw [List.drop_drop]; rfl
  rw [h7, ← h0]
  have : ∀ (x y : List UInt8) (b : UInt8), (x ++ b :: y).drop (x.length + 1) = y := fun x y b => by
    induction x with
    | nil => rfl
    | cons c x ih => simp
  exact (this _ _ _).symm

theorem RLoop.start (l : List UInt8) : RLoop l 0 0 l [] := ⟨rfl, Nat.zero_le _, Nat.le_refl _, Int.le_refl _, by omega, rfl, by unfold taken; omega⟩

theorem extract_rest (l : List UInt8) (A : Nat) : (⟨l.toArray⟩ : ByteArray).extract A l.length = ⟨(l.drop A).toArray⟩ := by
  apply bytes_eq
  rw [Lib.extract_data]
  exact List.take_of_length_le (by simp)

set_option maxRecDepth 100000 in
set_option maxHeartbeats 1000000 in
theorem implRec_any (l : List UInt8) (w : World) (ht : Tab w) :
    Calls Tryd.prog 10 #[.string ⟨l.toArray⟩] w (RecRes l w) := by
  obtain ⟨i0, hi, hz0, hz1, hz2⟩ := info_parts Tryd.info9
  have HT := Lib.hid ht
  clear ht
  by_cases hl : 4000 < l.length
  · have HL := Lib.hid hl
    go_enter Tryd.func10, Tryd.ntmps10
    go_wp2
    exact bodyPost_ret (v := .tuple #[.slice none 0 0, .int .i64 0, .bool false]) (by simp [results, Tryd.results10, go_sem]) rfl (.inl ⟨HL.out, rfl, Below.refl _ _⟩)
  have hl2 : l.length ≤ 4000 := by omega
  clear hl
  go_enter Tryd.func10, Tryd.ntmps10
  go_wp2
  have hstart : (w.alloc (.cells #[] 9)).ownsRow w.heap.size 9 1 (.slice (some ⟨w.heap.size, 0, none⟩) 0 0) 0 [] := by
    have h := World.ownsRow_made (base := w.heap.size) (e := 9) (size := 1) w #[] 0 (by simp) (by simp [maxLen]) rfl
    exact h
  have HStart := Lib.hid hstart
  clear hstart
  go_loopw [5, 6, 7] (fun v n a wr => ∃ A : Nat, ∃ N : Int, ∃ r : List UInt8, ∃ L : List (List UInt8), n = .int .i64 N ∧ a = .int .i64 A ∧ RLoop l N A r L ∧ wr.ownsRow w.heap.size 9 1 v L.length (L.map sv) ∧ Below w.heap.size w wr) (fun _ _ a _ => l.length - (intOf a).toNat)
  case atStart => exact ⟨0, 0, l, [], rfl, rfl, RLoop.start l, HStart.out, (Below.refl _ _).alloc (by simp) _⟩
  case round =>
    obtain ⟨A, N, r, L, rfl, rfl, hZ, hown, hb⟩ := hrel
    have HZ := Lib.hid hZ
    have HB := Lib.hid hb
    obtain ⟨b0, b1, b2, b3, b4, -, -⟩ := hZ
    have hsz := hb.size
    have hrl : r.length ≤ 4000 := by rw [b0]; simp; omega
    have he := extract_rest l A
    rw [← b0] at he
    have HE := Lib.hid he
    have HOwn := Lib.hid hown
    clear hb b0 he hown
    go_wp2_with fail
    rw [HE.out]
    refine (cut_line r 10 _ hrl).mono ?_
    rintro e w1 ⟨⟨v, rfl, hv⟩, d, hw1⟩
    have HOwn2 : Hid (w1.ownsRow w.heap.size 9 1 u5 L.length (L.map sv)) := by rw [hw1]; exact own_keep HOwn.out (below_drewN (Below.refl _ _) d)
    have HB2 : Hid (Below w.heap.size w w1) := by rw [hw1]; exact below_drewN HB.out d
    clear hw1 HOwn HB hsz
    rcases hv with ⟨hv, rfl⟩ | ⟨a, q, rfl, hv, rfl⟩
    · obtain ⟨rfl, rfl⟩ := HZ.out.none hv
      clear hv HZ HE
      go_wp2_with fail
      refine (cut_line r 32 _ hrl).mono ?_
      rintro e w2 ⟨⟨v, rfl, hv⟩, d2, hw2⟩
      have HOwn3 : Hid (w2.ownsRow w.heap.size 9 1 u5 (texts l).length ((texts l).map sv)) := by rw [hw2]; exact own_keep HOwn2.out (below_drewN (Below.refl _ _) d2)
      have HB3 : Hid (Below w.heap.size w w2) := by rw [hw2]; exact below_drewN HB2.out d2
      clear hw2 HOwn2 HB2
      rcases hv with ⟨hv, rfl⟩ | ⟨a, q, rfl, hv, rfl⟩
      · clear hv
        go_wp2_with fail
        refine (implCheck_any N ⟨#[]⟩ _ b3 b4 (Nat.zero_le _)).mono ?_
        rintro e w3 ⟨rfl, rfl⟩
        go_wp2
        exact bodyPost_ret (v := .tuple #[u5, .int .i64 (taken l), .bool true]) (by simp [results, Tryd.results10, go_sem]) rfl (.inr ⟨hl2, _, rfl, HOwn3.out, HB3.out⟩)
      · clear hv
        simp at hrl
        go_wp2_with fail
        refine (implCheck_any N ⟨q.toArray⟩ _ b3 b4 (by simp [ByteArray.size]; omega)).mono ?_
        rintro e w3 ⟨rfl, rfl⟩
        go_wp2
        exact bodyPost_ret (v := .tuple #[u5, .int .i64 (taken l), .bool true]) (by simp [results, Tryd.results10, go_sem]) rfl (.inr ⟨hl2, _, rfl, HOwn3.out, HB3.out⟩)
    · have hal : a.length ≤ 4000 := by simp at hrl; omega
      have HV := Lib.hid hv
      clear hv
      go_wp2_with fail
      refine (cut_line a 32 _ hal).mono ?_
      rintro e w2 ⟨⟨v, rfl, hv⟩, d2, hw2⟩
      have HOwn3 : Hid (w2.ownsRow w.heap.size 9 1 u5 L.length (L.map sv)) := by rw [hw2]; exact own_keep HOwn2.out (below_drewN (Below.refl _ _) d2)
      have HB3 : Hid (Below w.heap.size w w2) := by rw [hw2]; exact below_drewN HB2.out d2
      clear hw2 HOwn2 HB2
      rcases hv with ⟨hv, rfl⟩ | ⟨h, t, rfl, hv, rfl⟩
      · obtain ⟨rfl, rfl⟩ := HZ.out.stop HV.out hv
        clear hv HZ HE
        go_wp2_with fail
        refine (implCheck_any N ⟨#[]⟩ _ b3 b4 (Nat.zero_le _)).mono ?_
        rintro e w3 ⟨rfl, rfl⟩
        go_wp2
        exact bodyPost_ret (v := .tuple #[u5, .int .i64 (taken l), .bool true]) (by simp [results, Tryd.results10, go_sem]) rfl (.inr ⟨hl2, _, rfl, HOwn3.out, HB3.out⟩)
      · have HV2 := Lib.hid hv
        have htl : t.length ≤ 4000 := by simp at hal; omega
        obtain ⟨c0, c1⟩ := chk_range t N b3 b4
        have hsz2 := HB3.out.size
        have HT2 : Hid (Tab w2) := HT.out.keep HB3.out
        clear hv
        go_wp2_with fail
        refine (implCheck_any N ⟨t.toArray⟩ _ b3 b4 (by simpa [ByteArray.size] using htl)).mono ?_
        rintro e w3 ⟨rfl, hw3⟩
        subst hw3
        go_wp2_with fail
        refine (Tryd.strconv_Itoa (chk N t) (by omega) (by omega) _ HT2.out).mono ?_
        rintro e w4 ⟨rfl, k, os, hw4⟩
        have HOwn4 : Hid (w4.ownsRow w.heap.size 9 1 u5 L.length (L.map sv)) := by rw [hw4]; exact Lib.ownsRow_grow HOwn3.out k os
        have HB4 : Hid (Below w.heap.size w w4) := by rw [hw4]; exact HB3.out.trans (Lib.below_grow _ _ hsz2 _ _)
        clear hw4 HOwn3 HB3 HT2
        by_cases hh : h = Lib.itoa (chk N t)
        · subst hh
          have HG := Lib.hid (HZ.out.good HV.out HV2.out rfl)
          have b5 := HG.out.2.1
          simp at b5
          have hsz4 := HB4.out.size
          have hown := HOwn4.out
          clear HOwn4
          generalize hm : Lib.itoa (chk N t) = h at *
          clear hm
          simp at hal hrl
          go_wp2_with (first | (at_builtin; refine wpList_append_own _ rfl _ _ 24 rfl w.heap.size 9 i0 (.string ⟨#[]⟩) 1 16 Tryd.underlying24 hi hz0 hz1 hz2 rfl (by decide) _ _ _ rfl (hown.alloc _) ⟨w4.heap.size, 0, none⟩ 1 1 [sv t] rfl rfl ?c1 ?c2 ?c3 ?c4 ?c5 ?_))
          case c1 => exact one_at _ _ _
          case c2 => first | rfl | (intro u hu; simp at hu; subst hu; rfl)
          case c3 => unfold maxLen; omega
          case c4 => omega
          case c5 => first | omega | (simp; omega)
          intro v' w5 hown' hgrow _
          have ho : w5.ownsRow w.heap.size 9 1 v' (L ++ [t]).length ((L ++ [t]).map sv) := by
            simpa using hown'
          have HO := Lib.hid ho
          clear ho
          have HB5 : Hid (Below w.heap.size w w5) :=
            (HB4.out.alloc hsz4 _).grown hgrow (by simp; omega) (fun k hk => (hown.lt k hk).1)
          clear hown' hgrow hown
          go_wp2
          go_roundw
          case rel => exact ⟨A + (h ++ 32 :: t).length + 1, chk N t, q, L ++ [t], rfl, by simp <;> go_num, HG.out, HO.out, HB5.out⟩
          case measure => simp [intOf] <;> omega
        · obtain ⟨rfl, rfl⟩ := HZ.out.bad HV.out HV2.out hh
          have hne : (h == Lib.itoa (chk N t)) = false := by simpa using hh
          clear hh HZ HE
          go_wp2
          exact bodyPost_ret (v := .tuple #[u5, .int .i64 (taken l), .bool true]) (by simp [results, Tryd.results10, go_sem]) rfl (.inr ⟨hl2, _, rfl, HOwn4.out, HB4.out⟩)

end Go.Proofs.YthmjcjoecelnmaaDoor
