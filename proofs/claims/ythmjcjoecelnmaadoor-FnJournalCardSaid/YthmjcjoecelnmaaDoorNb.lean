/-
  l01ZOf and l01Int by their contracts: the digits to the base 10000 of an integer, in new memory. Condition: an int64.
-/
import Derived.Test.YthmjcjoecelnmaaDoorNa
namespace Go.Proofs.YthmjcjoecelnmaaDoor
open Go.RowKit
set_option linter.unusedVariables false

/-- The digits to the base 10000, the least one first. -/
def limbs (n : Nat) : List Int := if h : n = 0 then [] else ((n % 10000 : Nat) : Int) :: limbs (n / 10000)
termination_by n
decreasing_by omega

theorem limbs_zero : limbs 0 = [] := by rw [limbs]; simp
theorem limbs_pos {n : Nat} (h : n ≠ 0) : limbs n = ((n % 10000 : Nat) : Int) :: limbs (n / 10000) := by rw [limbs, dif_neg h]

theorem limbs_last (n : Nat) : 0 < (limbs n).length → (limbs n).getD ((limbs n).length - 1) 0 ≠ 0 := by
  induction n using Nat.strongRecOn with
  | _ n ih =>
    by_cases h : n = 0
    · subst h; rw [limbs_zero]; intro h; simp at h
    · intro _
      rw [limbs_pos h]
      by_cases h2 : n / 10000 = 0
      · rw [h2, limbs_zero]
        simp
        omega
      · have hp : 0 < (limbs (n / 10000)).length := by rw [limbs_pos h2]; simp
        have := ih (n / 10000) (by omega) hp
        obtain ⟨m, hm⟩ : ∃ m, (limbs (n / 10000)).length = m + 1 := ⟨_, (Nat.sub_add_cancel hp).symm⟩
        rw [hm] at this
        simp only [List.length_cons, hm, Nat.add_sub_cancel, List.getD_cons_succ] at this ⊢
        exact this

theorem limbs_bound (n : Nat) : ∀ x ∈ limbs n, 0 ≤ x ∧ x < 10000 := by
  induction n using Nat.strongRecOn with
  | _ n ih =>
    by_cases h : n = 0
    · subst h; rw [limbs_zero]; intro x hx; simp at hx
    · rw [limbs_pos h]
      intro x hx
      simp only [List.mem_cons] at hx
      rcases hx with rfl | hx
      · omega
      · exact ih (n / 10000) (by omega) x hx

theorem limbs_length (k n : Nat) (h : n < 10000 ^ k) : (limbs n).length ≤ k := by
  induction k generalizing n with
  | zero => have : n = 0 := by simpa using h
            subst this; rw [limbs_zero]; simp
  | succ k ih =>
    by_cases h0 : n = 0
    · subst h0; rw [limbs_zero]; simp
    · rw [limbs_pos h0]
      have := ih (n / 10000) (by rw [Nat.pow_succ] at h; omega)
      simp; omega

/-- An integer in memory: a sign and its digits. -/
def ZVal (lo : Nat) (neg : Bool) (n : Nat) (w : World) (v : Value) : Prop :=
  ∃ ao cap, v = .agg #[.bool (neg && decide (0 < (limbs n).length)), .slice ao (limbs n).length cap] ∧ DAt lo w ao cap (limbs n)

/-- What a call that makes an integer returns. -/
def ZRes (neg : Bool) (n : Nat) (w : World) (e : Ending) (w' : World) : Prop := ∃ v, e = .returned v ∧ ZVal w.heap.size neg n w' v ∧ Below w.heap.size w w'

/-- What holds at each round's head: the digits so far, and what is left. -/
def ZLoop (x R : Int) (L : List Int) : Prop := limbs x.natAbs = L ++ limbs R.natAbs ∧ (0 ≤ x → 0 ≤ R) ∧ (x < 0 → R ≤ 0) ∧ R.natAbs ≤ x.natAbs ∧ L.length ≤ 5

theorem limbs_five (n : Nat) (h : n ≤ 9223372036854775808) : (limbs n).length ≤ 5 := limbs_length 5 n (by omega)

theorem ZLoop.step {x R X : Int} {L : List Int} (h : ZLoop x R L) (hx : x.natAbs ≤ 9223372036854775808) (hR : R ≠ 0) (hX : X = ((R.natAbs % 10000 : Nat) : Int)) (T : Int) (hT : T.natAbs = R.natAbs / 10000) (hs : (0 ≤ R → 0 ≤ T) ∧ (R ≤ 0 → T ≤ 0)) : ZLoop x T (L ++ [X]) := by
  obtain ⟨h1, h2, h3, h4, h5⟩ := h
  have e : limbs x.natAbs = (L ++ [X]) ++ limbs T.natAbs := by
    rw [h1, limbs_pos (n := R.natAbs) (by omega), hT, hX]; simp
  refine ⟨e, fun h => hs.1 (h2 h), fun h => hs.2 (h3 h), by omega, ?_⟩
  have := limbs_five _ hx
  rw [e] at this
  simp at this ⊢
  omega

theorem own_view {lo : Nat} {w : World} {v : Value} {L : List Int} (h : w.ownsRow lo 2 1 v L.length (L.map (Value.int .i64))) :
    ∃ ao cap, v = .slice ao L.length cap ∧ RowAt lo w ao L ∧ (ao = none → cap = 0) ∧ L.length ≤ cap ∧ cap ≤ 9223372036854775807 := by
  have h0 := h
  obtain ⟨_, h2⟩ := h
  rcases h2 with ⟨rfl, hn⟩ | ⟨g, cap, cur, rfl, hg, hh, hn, hcap, hsz, htake⟩
  · exact ⟨none, 0, by rw [hn], fun h => by omega, fun _ => rfl, by omega, by omega⟩
  · refine ⟨some ⟨g, 0, none⟩, cap, rfl, fun _ => ⟨g, 0, rfl, hg, (Array.getElem?_eq_some_iff.1 hh).1, fun t ht => ?_⟩, (fun h => by cases h), hn, by unfold maxLen at hcap; omega⟩
    rw [Nat.zero_add, h0.cellAt t (by omega)]
    simp [List.getD, ht]

theorem one_at (w : World) (c : Value) (t : TypeId) : ∀ (j : Nat) (u : Value), [c][j]? = some u → (w.alloc (.cells #[c] t)).cell? ((⟨w.heap.size, 0, none⟩ : Addr).add j) = some u := by
  intro j u hj
  match j, hj with
  | 0, hj => simp at hj; subst hj; simp [Addr.add, go_sem]

set_option maxRecDepth 100000 in
set_option maxHeartbeats 1000000 in
theorem zof_any (x : Int) (w : World) (h0 : -9223372036854775808 ≤ x) (h1 : x ≤ 9223372036854775807) :
    Calls Tryd.prog 43 #[.int .i64 x] w (ZRes (decide (x < 0)) x.natAbs w) := by
  obtain ⟨i0, hi, hz0, hz1, hz2⟩ := info_parts Tryd.info2
  go_enter Tryd.func43, Tryd.ntmps43
  go_wp2
  have hxb : Hid (x.natAbs ≤ 9223372036854775808) := by show x.natAbs ≤ 9223372036854775808; omega
  have hstart : ((w.alloc (.cells #[.bool false, .slice none 0 0] 45)).alloc (.cells #[] 2)).ownsRow (w.heap.size + 1) 2 1 (.slice (some ⟨w.heap.size + 1, 0, none⟩) 0 0) 0 [] := by
    have h := World.ownsRow_made (base := w.heap.size + 1) (e := 2) (size := 1) (w.alloc (.cells #[.bool false, .slice none 0 0] 45)) #[] 0 (by simp) (by simp [maxLen]) rfl
    rw [World.size_alloc] at h
    exact h
  have HStart := Lib.hid hstart
  clear hstart
  go_loopw [3, 4] (fun v r wr => ∃ R : Int, ∃ L : List Int, r = .int .i64 R ∧ ZLoop x R L ∧ wr.ownsRow (w.heap.size + 1) 2 1 v L.length (L.map (Value.int .i64)) ∧ Below (w.heap.size + 1) (w.alloc (.cells #[.bool false, .slice none 0 0] 45)) wr) (fun _ r _ => (intOf r).natAbs)
  case atStart => exact ⟨x, [], rfl, ⟨rfl, fun h => h, fun h => Int.le_of_lt h, Nat.le_refl _, by simp⟩, HStart.out, (Below.refl _ _).alloc (by simp) _⟩
  case round =>
    obtain ⟨R, L, rfl, hZ, hown, hb⟩ := hrel
    have HZ := Lib.hid hZ
    have HB := Lib.hid hb
    have b1 : R.natAbs ≤ 9223372036854775808 := Nat.le_trans hZ.2.2.2.1 hxb.out
    have b2 : -9223372036854775808 ≤ R := by omega
    have b3 : R ≤ 9223372036854775807 := by
      by_cases hx : 0 ≤ x
      · have := hZ.2.2.2.1; omega
      · have := hZ.2.2.1 (by omega); omega
    have b4 : L.length ≤ 5 := hZ.2.2.2.2
    have hsz := hb.size
    simp at hsz
    clear hZ hb b1
    by_cases hR : R = 0
    · have hL : L = limbs x.natAbs := by
        have h := HZ.out.1
        rw [hR] at h
        simp only [Int.natAbs_zero, limbs_zero, List.append_nil] at h
        exact h.symm
      rw [hL] at hown
      obtain ⟨ao, cap, rfl, hrow, hnone, hlc, hcap⟩ := own_view hown
      have HRow := Lib.hid hrow
      have HNone := Lib.hid hnone
      have HCap := Lib.hid hcap
      have d0 : wr.cell? ⟨w.heap.size, 0, none⟩ = some (.bool false) := (HB.out.cell (p := ⟨w.heap.size, 0, none⟩) (Nat.lt_succ_self _)).trans (World.cell?_alloc_new _ _ _ 0)
      have d1 : wr.cell? ⟨w.heap.size, 1, none⟩ = some (.slice none 0 0) := (HB.out.cell (p := ⟨w.heap.size, 1, none⟩) (Nat.lt_succ_self _)).trans (World.cell?_alloc_new _ _ _ 1)
      have g0 : wr.frozen? ⟨w.heap.size, 0, none⟩ = false := (HB.out.frozen (p := ⟨w.heap.size, 0, none⟩) (Nat.lt_succ_self _)).trans (by simp [go_sem])
      have g1 : wr.frozen? ⟨w.heap.size, 1, none⟩ = false := (HB.out.frozen (p := ⟨w.heap.size, 1, none⟩) (Nat.lt_succ_self _)).trans (by simp [go_sem])
      have BW : Hid (Below w.heap.size w wr) := ((Below.refl _ _).alloc (Nat.le_refl _) _).trans (HB.out.mono (Nat.le_succ _))
      clear hown hrow hnone hcap hL
      go_wp2_with fail
      refine (cut_any _ _ (limbs x.natAbs) _ _ (HRow.out.low (Nat.zero_le _)) HNone.out hlc HCap.out).mono ?_
      rintro e w2 ⟨m, hm, rfl, hz, hlast, hb2⟩
      have hmm : m = (limbs x.natAbs).length := by
        refine Nat.le_antisymm hm (Nat.not_lt.1 fun hlt => ?_)
        have h := limbs_last x.natAbs (by omega)
        exact h (hz _ (by omega) (by omega))
      subst hmm
      have p0 := (hb2.cell (p := ⟨w.heap.size, 0, none⟩) (show w.heap.size < wr.heap.size by omega)).trans d0
      have p1 := (hb2.cell (p := ⟨w.heap.size, 1, none⟩) (show w.heap.size < wr.heap.size by omega)).trans d1
      have q0 := (hb2.frozen (p := ⟨w.heap.size, 0, none⟩) (show w.heap.size < wr.heap.size by omega)).trans g0
      have q1 := (hb2.frozen (p := ⟨w.heap.size, 1, none⟩) (show w.heap.size < wr.heap.size by omega)).trans g1
      have hs2 : w.heap.size < w2.heap.size := Nat.lt_of_lt_of_le (show w.heap.size < wr.heap.size by omega) hb2.size
      have HB2 := Lib.hid hb2
      clear hz hlast hb2 d0 d1 g0 g1 hm
      go_wp2
      refine bodyPost_ret (v := .agg #[.bool (decide (x < 0) && decide (0 < (limbs x.natAbs).length)), .slice ao (limbs x.natAbs).length cap]) (by simp [results, Tryd.results43, go_sem, p0, p1]) rfl ⟨_, rfl, ⟨ao, cap, rfl, ?_, HNone.out, hlc, HCap.out⟩, ?_⟩
      · exact (((HRow.out.keep HB2.out).set (by show w.heap.size < _; omega) _).set (by show w.heap.size < _; omega) _).low (Nat.le_succ _)
      · exact ((BW.out.trans (HB2.out.mono (by omega))).setCell (Nat.le_refl _) _).setCell (Nat.le_refl _) _
    · have hR0 : (R != 0) = true := bne_iff_ne.2 hR
      have HR := Lib.hid hR
      clear hR
      by_cases hpos : 0 < R
      · have c1 : 0 ≤ R % 10000 := by omega
        have c2 : R % 10000 < 10000 := by omega
        have HS : Hid (ZLoop x (R / 10000) (L ++ [R % 10000])) := HZ.out.step hxb.out HR.out (by omega) (R / 10000) (by omega) ⟨fun _ => by omega, fun _ => by omega⟩
        have HM : Hid ((R / 10000).natAbs < R.natAbs) := by show (R / 10000).natAbs < R.natAbs; omega
        go_wp2_with (first | (at_builtin; refine wpList_append_own _ rfl _ _ 43 rfl (w.heap.size + 1) 2 i0 (.int .i64 0) 1 8 Tryd.underlying43 hi hz0 hz1 hz2 rfl (by decide) _ _ _ rfl (hown.alloc _) ⟨wr.heap.size, 0, none⟩ 1 1 [.int .i64 (R % 10000)] rfl rfl ?c1 ?c2 ?c3 ?c4 ?c5 ?_))
        case c1 => exact one_at _ _ _
        case c2 => intro u hu; simp at hu; subst hu; rfl
        case c3 => unfold maxLen; omega
        case c4 => omega
        case c5 => simp; omega
        intro v' w1 hown' hgrow _
        have ho : w1.ownsRow (w.heap.size + 1) 2 1 v' (L ++ [R % 10000]).length ((L ++ [R % 10000]).map (Value.int .i64)) := by
          simpa using hown'
        have HO := Lib.hid ho
        clear ho
        have HB2 : Hid (Below (w.heap.size + 1) (w.alloc (.cells #[.bool false, .slice none 0 0] 45)) w1) :=
          (HB.out.alloc (by omega) _).grown hgrow (by simp; omega) (fun k hk => (hown.lt k hk).1)
        clear hown' hgrow hown
        go_wp2
        go_roundw
        case rel => exact ⟨R / 10000, L ++ [R % 10000], rfl, HS.out, HO.out, HB2.out⟩
        case measure => simp only [intOf]; exact HM.out
      · have e1 : R.tmod 10000 = -((R.natAbs % 10000 : Nat) : Int) := by
          obtain ⟨m, rfl⟩ : ∃ m : Nat, R = -(m : Int) := ⟨R.natAbs, by omega⟩
          rw [Int.neg_tmod, Int.tmod_eq_emod_of_nonneg (by omega)]; simp
        have e2 : R.tdiv 10000 = -((R.natAbs / 10000 : Nat) : Int) := by
          obtain ⟨m, rfl⟩ : ∃ m : Nat, R = -(m : Int) := ⟨R.natAbs, by omega⟩
          rw [Int.neg_tdiv, Int.tdiv_eq_ediv_of_nonneg (by omega)]; simp
        have c1 : R.tmod 10000 ≤ 0 := by omega
        have c2 : -10000 < R.tmod 10000 := by omega
        have c3 : R.tdiv 10000 ≤ 0 := by omega
        have c4 : R ≤ R.tdiv 10000 := by omega
        have HS : Hid (ZLoop x (R.tdiv 10000) (L ++ [-(R.tmod 10000)])) := HZ.out.step hxb.out HR.out (by omega) (R.tdiv 10000) (by omega) ⟨fun h => by have := HR.out; omega, fun _ => by omega⟩
        have HM : Hid ((R.tdiv 10000).natAbs < R.natAbs) := by
          have := HR.out
          show (R.tdiv 10000).natAbs < R.natAbs
          omega
        clear e1 e2
        by_cases hneg : R.tmod 10000 < 0
        · go_wp2_with (first | (at_builtin; refine wpList_append_own _ rfl _ _ 43 rfl (w.heap.size + 1) 2 i0 (.int .i64 0) 1 8 Tryd.underlying43 hi hz0 hz1 hz2 rfl (by decide) _ _ _ rfl (hown.alloc _) ⟨wr.heap.size, 0, none⟩ 1 1 [.int .i64 (-(R.tmod 10000))] rfl rfl ?b1 ?b2 ?b3 ?b4 ?b5 ?_))
          case b2 => first | rfl | (intro u hu; simp at hu; subst hu; rfl)
          case b3 => unfold maxLen; omega
          case b4 => omega
          case b5 => first | omega | (simp; omega)
          intro v' w1 hown' hgrow _
          have ho : w1.ownsRow (w.heap.size + 1) 2 1 v' (L ++ [-(R.tmod 10000)]).length ((L ++ [-(R.tmod 10000)]).map (Value.int .i64)) := by
            simpa using hown'
          have HO := Lib.hid ho
          clear ho
          have HB2 : Hid (Below (w.heap.size + 1) (w.alloc (.cells #[.bool false, .slice none 0 0] 45)) w1) :=
            (HB.out.alloc (by omega) _).grown hgrow (by simp; omega) (fun k hk => (hown.lt k hk).1)
          clear hown' hgrow hown
          go_wp2
          go_roundw
          case rel => exact ⟨R.tdiv 10000, L ++ [-(R.tmod 10000)], rfl, HS.out, HO.out, HB2.out⟩
          case measure => simp only [intOf]; exact HM.out
        · have e0 : R.tmod 10000 = 0 := by omega
          have HS2 : Hid (ZLoop x (R.tdiv 10000) (L ++ [0])) := by
            have h := HS.out
            rw [e0] at h
            exact h
          clear c1 c2 hneg
          go_wp2_with (first | (at_builtin; refine wpList_append_own _ rfl _ _ 43 rfl (w.heap.size + 1) 2 i0 (.int .i64 0) 1 8 Tryd.underlying43 hi hz0 hz1 hz2 rfl (by decide) _ _ _ rfl (hown.alloc _) ⟨wr.heap.size, 0, none⟩ 1 1 [.int .i64 0] rfl rfl ?d1 ?d2 ?d3 ?d4 ?d5 ?_))
          case d2 => first | rfl | (intro u hu; simp at hu; subst hu; rfl)
          case d3 => unfold maxLen; omega
          case d4 => omega
          case d5 => first | omega | (simp; omega)
          intro v' w1 hown' hgrow _
          have ho : w1.ownsRow (w.heap.size + 1) 2 1 v' (L ++ [0]).length ((L ++ [0]).map (Value.int .i64)) := by
            simpa using hown'
          have HO := Lib.hid ho
          clear ho
          have HB2 : Hid (Below (w.heap.size + 1) (w.alloc (.cells #[.bool false, .slice none 0 0] 45)) w1) :=
            (HB.out.alloc (by omega) _).grown hgrow (by simp; omega) (fun k hk => (hown.lt k hk).1)
          clear hown' hgrow hown
          go_wp2
          go_roundw
          case rel => exact ⟨R.tdiv 10000, L ++ [0], rfl, HS2.out, HO.out, HB2.out⟩
          case measure => simp only [intOf]; exact HM.out

end Go.Proofs.YthmjcjoecelnmaaDoor
