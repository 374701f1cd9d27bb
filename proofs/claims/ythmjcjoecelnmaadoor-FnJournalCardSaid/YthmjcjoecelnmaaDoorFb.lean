/-
  l01ZNeg and l01ZMul by their contracts: the product of two integers of at most one digit to the base 10000.
-/
import Derived.Test.YthmjcjoecelnmaaDoorFa
namespace Go.Proofs.YthmjcjoecelnmaaDoor
open Go.RowKit
set_option linter.unusedVariables false

/-- What is known of the two blocks that a walk laid first, later. -/
theorem own2 {w w1 : World} {c c' : Array Value} {t t' : TypeId} (hb : Below (w.heap.size + 2) ((w.alloc (.cells c t)).alloc (.cells c' t')) w1) (i : Nat) :
    w1.cell? ⟨w.heap.size, i, none⟩ = c[i]? ∧ w1.cell? ⟨w.heap.size + 1, i, none⟩ = c'[i]? ∧ w1.frozen? ⟨w.heap.size, i, none⟩ = false ∧ w1.frozen? ⟨w.heap.size + 1, i, none⟩ = false ∧ w.heap.size + 1 < w1.heap.size := by
  have hs := hb.size
  simp at hs
  refine ⟨?_, ?_, ?_, ?_, by omega⟩
  · rw [hb.cell (p := ⟨w.heap.size, i, none⟩) (show w.heap.size < _ by omega)]; simp [go_sem]
  · rw [hb.cell (p := ⟨w.heap.size + 1, i, none⟩) (show w.heap.size + 1 < _ by omega)]; simp [go_sem]
  · rw [hb.frozen (p := ⟨w.heap.size, i, none⟩) (show w.heap.size < _ by omega)]; simp [go_sem]
  · rw [hb.frozen (p := ⟨w.heap.size + 1, i, none⟩) (show w.heap.size + 1 < _ by omega)]; simp [go_sem]

set_option maxHeartbeats 400000 in
theorem neg_any (neg : Bool) (x : Nat) (v : Value) (w : World) (hv : ZVal 0 neg x w v) (hx : 0 < x) :
    Calls Tryd.prog 87 #[v] w fun e w' => ∃ v', e = .returned v' ∧ ZVal 0 (!neg) x w' v' ∧ Below w.heap.size w w' := by
  obtain ⟨ao, cap, rfl, hd⟩ := hv
  have hp : decide (0 < (limbs x).length) = true := by rw [limbs_pos (by omega)]; simp
  rw [hp, Bool.and_true]
  have HD := Lib.hid hd
  have HPos := Lib.hid hp
  have hlc := hd.len
  have hcc := hd.cap
  clear hd hp
  go_enter Tryd.func87, Tryd.ntmps87
  go_wp2_with fail
  refine (cut_any _ _ (limbs x) _ _ ((HD.out.row).keep ?_) HD.out.nil hlc hcc).mono ?_
  · exact ((Below.refl _ _).alloc (Nat.le_refl _) _).alloc (by simp) _
  rintro e w2 ⟨m, hm, rfl, hz, hlast, hb2⟩
  have hmm : m = (limbs x).length := by
    refine Nat.le_antisymm hm (Nat.not_lt.1 fun hlt => ?_)
    have h := limbs_last x (by omega)
    exact h (hz _ (by omega) (by omega))
  subst hmm
  have hb3 := hb2.mono (B' := w.heap.size + 2) (by simp)
  have p0 : w2.cell? ⟨w.heap.size + 1, 0, none⟩ = some (.bool false) := (own2 hb3 0).2.1
  have p1 : w2.cell? ⟨w.heap.size + 1, 1, none⟩ = some (.slice none 0 0) := (own2 hb3 1).2.1
  have q0 := (own2 hb3 0).2.2.2.1
  have q1 := (own2 hb3 1).2.2.2.1
  have hs2 := (own2 hb3 0).2.2.2.2
  have HB : Hid (Below w.heap.size w w2) := (((Below.refl _ _).alloc (Nat.le_refl _) _).alloc (by simp) _).trans (hb3.mono (by omega))
  clear hz hlast hb2 hb3 hm
  go_wp2
  refine bodyPost_ret (v := .agg #[.bool (!neg && decide (0 < (limbs x).length)), .slice ao (limbs x).length cap]) (by simp [results, Tryd.results87, go_sem, p0, p1]) rfl ⟨_, rfl, ⟨ao, cap, rfl, ?_⟩, ?_⟩
  · exact HD.out.keep ((HB.out.setCell (Nat.le_succ _) _).setCell (Nat.le_succ _) _)
  · exact (HB.out.setCell (Nat.le_succ _) _).setCell (Nat.le_succ _) _

theorem ZVal.keep {lo : Nat} {neg : Bool} {n : Nat} {w w' : World} {v : Value} (h : ZVal lo neg n w v) (hb : Below w.heap.size w w') : ZVal lo neg n w' v := by
  obtain ⟨ao, cap, rfl, hd⟩ := h
  exact ⟨ao, cap, rfl, hd.keep hb⟩
theorem ZVal.low {lo lo' : Nat} {neg : Bool} {n : Nat} {w : World} {v : Value} (h : ZVal lo neg n w v) (hl : lo' ≤ lo) : ZVal lo' neg n w v := by
  obtain ⟨ao, cap, rfl, hd⟩ := h
  exact ⟨ao, cap, rfl, hd.low hl⟩

/-- The three digits that the product's row holds at last. -/
def fin3 (P : Nat) : List Int := [((P % 10000 : Nat) : Int), ((P / 10000 : Nat) : Int), 0]
/-- The product's row behind k rounds. -/
def midf (P k : Nat) (j : Nat) : Value := .int .i64 (if j < k then (fin3 P).getD j 0 else 0)
/-- What is carried behind k rounds. -/
def midc (P k : Nat) : Int := if k = 1 then ((P / 10000 : Nat) : Int) else 0

theorem cut3 {P m : Nat} (h0 : 0 < P) (h1 : P < 100000000) (hm : m ≤ 3) (hz : ∀ j, m ≤ j → j < 3 → (fin3 P).getD j 0 = 0) (hl : 0 < m → (fin3 P).getD (m - 1) 0 ≠ 0) : m = (limbs P).length ∧ (fin3 P).take m = limbs P := by
  have hd : P = P % 10000 + 10000 * (P / 10000) := by omega
  have hm3 : m ≠ 3 := fun h => by
    subst h
    exact hl (by omega) rfl
  by_cases hq : P / 10000 = 0
  · have hlt : P < 10000 := by omega
    rw [limbs_one_digit h0 hlt]
    have hm2 : m ≠ 2 := fun h => by
      subst h
      have := hl (by omega)
      simp [fin3] at this
      omega
    have hm0 : m ≠ 0 := fun h => by
      subst h
      have := hz 0 (by omega) (by omega)
      simp [fin3] at this
      omega
    obtain rfl : m = 1 := by omega
    refine ⟨rfl, ?_⟩
    simp [fin3]
    omega
  · rw [limbs_two_digits (by omega) h1]
    have hm1 : ¬ m ≤ 1 := fun h => by
      have := hz 1 h (by omega)
      simp [fin3] at this
      omega
    obtain rfl : m = 2 := by omega
    exact ⟨rfl, rfl⟩

theorem made3 : madeCells #[Value.int .i64 0] 3 = #[.int .i64 0, .int .i64 0, .int .i64 0] := by kernel_rfl
theorem make3 (W : World) : (Instr.makeSlice 43 (.int .i64 3) (.int .i64 3)).run Tryd.prog W = .ok (.slice (some ⟨W.heap.size, 0, none⟩) 3 3) (W.alloc (.cells #[.int .i64 0, .int .i64 0, .int .i64 0] 2)) := by
  have h := run_make_row' (P := Tryd.prog) 43 2 (.int .i64 0) 8 Tryd.underlying43 Tryd.info2 rfl .i64 .i64 3 (by omega) (by omega) W
  rw [made3] at h
  exact h

/-- What is known of the three blocks that a walk laid first, later. -/
theorem own3 {w w1 : World} {c c' c'' : Array Value} {t t' t'' : TypeId} (hb : Below (w.heap.size + 3) (((w.alloc (.cells c t)).alloc (.cells c' t')).alloc (.cells c'' t'')) w1) (i : Nat) :
    w1.cell? ⟨w.heap.size, i, none⟩ = c[i]? ∧ w1.cell? ⟨w.heap.size + 1, i, none⟩ = c'[i]? ∧ w1.cell? ⟨w.heap.size + 1 + 1, i, none⟩ = c''[i]? ∧ w1.frozen? ⟨w.heap.size + 1 + 1, i, none⟩ = false ∧ w.heap.size + 2 < w1.heap.size := by
  have hs := hb.size
  simp at hs
  refine ⟨?_, ?_, ?_, ?_, by omega⟩
  · rw [hb.cell (p := ⟨w.heap.size, i, none⟩) (show w.heap.size < _ by omega)]; simp [go_sem]
  · rw [hb.cell (p := ⟨w.heap.size + 1, i, none⟩) (show w.heap.size + 1 < _ by omega)]; simp [go_sem]
  · rw [hb.cell (p := ⟨w.heap.size + 1 + 1, i, none⟩) (show w.heap.size + 1 + 1 < _ by omega)]; simp [go_sem]
  · rw [hb.frozen (p := ⟨w.heap.size + 1 + 1, i, none⟩) (show w.heap.size + 1 + 1 < _ by omega)]; simp [go_sem]

theorem three_below (w : World) (c c' c'' : Array Value) (t t' t'' : TypeId) : Below w.heap.size w (((w.alloc (.cells c t)).alloc (.cells c' t')).alloc (.cells c'' t'')) := (((Below.refl _ _).alloc (Nat.le_refl _) _).alloc (by simp) _).alloc (by simp; omega) _

set_option maxRecDepth 100000 in
set_option maxHeartbeats 2000000 in
theorem mul_11 (na nb : Bool) (b o b' o' ca cb x y : Nat) (w : World) (hx : w.cell? ⟨b, o, none⟩ = some (.int .i64 x)) (hy : w.cell? ⟨b', o', none⟩ = some (.int .i64 y)) (hbl : b < w.heap.size) (hbl' : b' < w.heap.size) (h1 : x < 10000) (h2 : y < 10000) (h3 : 0 < x) (h4 : 0 < y) :
    Calls Tryd.prog 82 #[.agg #[.bool na, .slice (some ⟨b, o, none⟩) 1 ca], .agg #[.bool nb, .slice (some ⟨b', o', none⟩) 1 cb]] w fun e w' => ∃ v, e = .returned v ∧ ZVal w.heap.size (na != nb) (x * y) w' v ∧ Below w.heap.size w w' := by
  have hmk := make3
  have hP : x * y < 100000000 := by
    have h5 : x * y ≤ 9999 * 9999 := Nat.mul_le_mul (by omega) (by omega)
    omega
  have hP0 : 0 < x * y := Nat.mul_pos h3 h4
  have hPc : ((x : Int) * (y : Int)) = ((x * y : Nat) : Int) := by simp
  generalize hPP : x * y = P at *
  have HX := Lib.hid hx
  have HY := Lib.hid hy
  have HPc := Lib.hid hPc
  clear hx hy hPP hPc
  go_enter Tryd.func82, Tryd.ntmps82
  go_wp2
  go_loopw [6, 7, 8] (fun i _ _ wr => ((i = .int .i64 0 ∧ wr.rowIs (w.heap.size + 1 + 1 + 1) 2 3 (midf P 0)) ∨ (i = .int .i64 1 ∧ wr.rowIs (w.heap.size + 1 + 1 + 1) 2 3 (midf P 3))) ∧ Below (w.heap.size + 3) (((w.alloc (.cells #[.bool na, .slice (some ⟨b, o, none⟩) 1 ca] 45)).alloc (.cells #[.bool nb, .slice (some ⟨b', o', none⟩) 1 cb] 45)).alloc (.cells #[.bool false, .slice none 0 0] 45)) wr) (fun i _ _ _ => (1 - intOf i).toNat)
  case atStart =>
    refine ⟨.inl ⟨rfl, ?_⟩, (Below.refl _ _).alloc (by simp) _⟩
    have h := World.rowIs_made (((w.alloc (.cells #[.bool na, .slice (some ⟨b, o, none⟩) 1 ca] 45)).alloc (.cells #[.bool nb, .slice (some ⟨b', o', none⟩) 1 cb] 45)).alloc (.cells #[.bool false, .slice none 0 0] 45)) (.int .i64 0) 3 2
    rw [made3] at h
    simp only [World.size_alloc] at h
    exact h.congr (fun i hi => by simp [midf])
  case round =>
    obtain ⟨hi, hb⟩ := hrel
    have HB := Lib.hid hb
    have HF : Hid (Below w.heap.size w wr) := (three_below _ _ _ _ _ _ _).trans (hb.mono (by omega))
    have p0 := (own3 hb 0).1
    have p1 := (own3 hb 1).1
    have q0 := (own3 hb 0).2.1
    have q1 := (own3 hb 1).2.1
    have r0 := (own3 hb 0).2.2.1
    have r1 := (own3 hb 1).2.2.1
    have z0 := (own3 hb 0).2.2.2.1
    have z1 := (own3 hb 1).2.2.2.1
    have hsz := (own3 hb 0).2.2.2.2
    clear hb
    simp only [List.getElem?_toArray, List.getElem?_cons_zero, List.getElem?_cons_succ] at p0 p1 q0 q1 r0 r1
    rcases hi with ⟨rfl, hrow⟩ | ⟨rfl, hrow⟩
    · have HRow := Lib.hid hrow
      have HX2 : Hid (wr.cell? ⟨b, o, none⟩ = some (.int .i64 x)) := (HF.out.cell (p := ⟨b, o, none⟩) hbl).trans HX.out
      have HY2 : Hid (wr.cell? ⟨b', o', none⟩ = some (.int .i64 y)) := (HF.out.cell (p := ⟨b', o', none⟩) hbl').trans HY.out
      have HPs := Lib.hid (And.intro p0 (And.intro p1 (And.intro q0 q1)))
      clear hrow r0 r1 z0 z1
      go_wp2
      go_loopw [7, 8] (fun c k wi => ((c = .int .i64 0 ∧ k = .int .i64 0 ∧ wi.rowIs (w.heap.size + 1 + 1 + 1) 2 3 (midf P 0)) ∨ (c = .int .i64 ((P / 10000 : Nat) : Int) ∧ k = .int .i64 1 ∧ wi.rowIs (w.heap.size + 1 + 1 + 1) 2 3 (midf P 1)) ∨ (c = .int .i64 0 ∧ k = .int .i64 2 ∧ wi.rowIs (w.heap.size + 1 + 1 + 1) 2 3 (midf P 2) ∧ 0 < P / 10000)) ∧ Below (w.heap.size + 3) (((w.alloc (.cells #[.bool na, .slice (some ⟨b, o, none⟩) 1 ca] 45)).alloc (.cells #[.bool nb, .slice (some ⟨b', o', none⟩) 1 cb] 45)).alloc (.cells #[.bool false, .slice none 0 0] 45)) wi) (fun _ k _ => (2 - intOf k).toNat)
      case atStart => exact ⟨.inl ⟨rfl, rfl, HRow.out⟩, HB.out⟩
      case round =>
        clear HRow HPs p0 p1 q0 q1 HX2 HY2 HB HF hsz
        obtain ⟨hi, hb⟩ := hrel
        have HBi := Lib.hid hb
        have HF : Hid (Below w.heap.size w wr) := (three_below _ _ _ _ _ _ _).trans (hb.mono (by omega))
        have p1 := (own3 hb 1).1
        have q1 := (own3 hb 1).2.1
        have hsz := (own3 hb 0).2.2.2.2
        clear hb
        simp only [List.getElem?_toArray, List.getElem?_cons_zero, List.getElem?_cons_succ] at p1 q1
        have cx : wr.cell? ⟨b, o, none⟩ = some (.int .i64 x) := (HF.out.cell (p := ⟨b, o, none⟩) hbl).trans HX.out
        have cy : wr.cell? ⟨b', o', none⟩ = some (.int .i64 y) := (HF.out.cell (p := ⟨b', o', none⟩) hbl').trans HY.out
        rcases hi with ⟨rfl, rfl, hrow⟩ | ⟨rfl, rfl, hrow⟩ | ⟨rfl, rfl, hrow, hq⟩
        · have HRow := Lib.hid hrow
          have d0 := hrow.cell (i := 0) (by omega)
          have f0 := hrow.frozen 0
          have l0 := hrow.lt
          have hpc := HPc.out
          clear hrow
          simp only [midf, Nat.lt_irrefl, if_false] at d0
          go_wp2
          go_quiet (fail)
          rename_i nq
          have HRow2 : Hid ((wr.drewN nq).rowIs (w.heap.size + 1 + 1 + 1) 2 3 (midf P 0)) := HRow.out
          have HB2 : Hid (Below (w.heap.size + 3) _ (wr.drewN nq)) := below_drewN HBi.out nq
          clear HRow HBi HF d0 f0 l0 p1 q1 cx cy hpc hsz
          generalize wr.drewN nq = w2 at *
          have d0 := HRow2.out.cell (i := 0) (by omega)
          have f0 := HRow2.out.frozen 0
          have l0 := HRow2.out.lt
          go_wp2
          go_roundw
          case rel =>
            refine ⟨.inr (.inl ⟨by go_num, rfl, (HRow2.out.set 0 _).congr (fun j hj => ?_)⟩), HB2.out.setCell (by show w.heap.size + 3 ≤ w.heap.size + 1 + 1 + 1; omega) _⟩
            match j, hj with
            | 0, _ => simp [midf, fin3]
            | 1, _ => simp [midf]
            | 2, _ => simp [midf]
          case measure => simp [intOf]
        · by_cases hq : P / 10000 = 0
          · have HRow : Hid (wr.rowIs (w.heap.size + 1 + 1 + 1) 2 3 (midf P 3)) := hrow.congr (fun j hj => by
              match j, hj with
              | 0, _ => simp [midf, fin3]
              | 1, _ => simp [midf, fin3]; omega
              | 2, _ => simp [midf, fin3])
            rw [hq]
            clear hrow hq
            go_wp2
            go_roundw
            case rel => exact ⟨.inr ⟨by go_num, HRow.out⟩, HBi.out⟩
            case measure => simp [intOf]
          · have HRow := Lib.hid hrow
            have d0 := hrow.cell (i := 1) (by omega)
            have f0 := hrow.frozen 1
            have l0 := hrow.lt
            have HQ := Lib.hid hq
            have hq1 : (0 : Int) < ((P / 10000 : Nat) : Int) := by omega
            have hq2 : ((P / 10000 : Nat) : Int) < 10000 := by omega
            clear hrow hq
            generalize hQ : ((P / 10000 : Nat) : Int) = Q at *
            have HQe := Lib.hid hQ
            clear hQ
            simp only [midf, Nat.lt_irrefl, if_false] at d0
            go_wp2
            go_roundw
            case rel =>
              refine ⟨.inr (.inr ⟨by go_num, rfl, (HRow.out.set 1 _).congr (fun j hj => ?_), by have := HQ.out; omega⟩), HBi.out.setCell (by show w.heap.size + 3 ≤ w.heap.size + 1 + 1 + 1; omega) _⟩
              match j, hj with
              | 0, _ => simp [midf]
              | 1, _ => simp [midf, fin3]; have := HQe.out; omega
              | 2, _ => simp [midf]
            case measure => simp [intOf]
        · have HRow : Hid (wr.rowIs (w.heap.size + 1 + 1 + 1) 2 3 (midf P 3)) := hrow.congr (fun j hj => by
              match j, hj with
              | 0, _ => simp [midf]
              | 1, _ => simp [midf]
              | 2, _ => simp [midf, fin3])
          clear hrow hq
          go_wp2
          go_roundw
          case rel => exact ⟨.inr ⟨by go_num, HRow.out⟩, HBi.out⟩
          case measure => simp [intOf]
    · have hrowat : RowAt (w.heap.size + 3) wr (some ⟨w.heap.size + 1 + 1 + 1, 0, none⟩) (fin3 P) := fun _ => ⟨w.heap.size + 1 + 1 + 1, 0, rfl, by omega, hrow.lt, fun t ht => by
        rw [Nat.zero_add, hrow.cell (by simpa [fin3] using ht)]
        have : t < 3 := by simpa [fin3] using ht
        simp [midf, this]⟩
      have HRA := Lib.hid hrowat
      clear hrow hrowat
      go_wp2_with fail
      refine (cut_any _ _ (fin3 P) 3 _ (HRA.out.low (Nat.zero_le _)) (fun h => by cases h) (by simp [fin3]) (by omega)).mono ?_
      rintro e w2 ⟨m, hm, rfl, hz, hlast, hb2⟩
      obtain ⟨hm2, htake⟩ := cut3 hP0 hP hm hz hlast
      have hrow2 := (HRA.out.keep hb2).take m
      rw [htake] at hrow2
      subst hm2
      have HR2 := Lib.hid hrow2
      have p0' := (hb2.cell (p := ⟨w.heap.size + 1 + 1, 0, none⟩) (show w.heap.size + 1 + 1 < _ by omega)).trans r0
      have p1' := (hb2.cell (p := ⟨w.heap.size + 1 + 1, 1, none⟩) (show w.heap.size + 1 + 1 < _ by omega)).trans r1
      have q0' := (hb2.frozen (p := ⟨w.heap.size + 1 + 1, 0, none⟩) (show w.heap.size + 1 + 1 < _ by omega)).trans z0
      have q1' := (hb2.frozen (p := ⟨w.heap.size + 1 + 1, 1, none⟩) (show w.heap.size + 1 + 1 < _ by omega)).trans z1
      have hs2 : w.heap.size + 1 + 1 < w2.heap.size := Nat.lt_of_lt_of_le (show w.heap.size + 1 + 1 < wr.heap.size by omega) hb2.size
      have HF2 : Hid (Below w.heap.size w w2) := HF.out.trans (hb2.mono (by omega))
      have HM3 : Hid ((limbs P).length ≤ 3) := by
        show (limbs P).length ≤ 3
        simpa [fin3] using hm
      clear hm hz hlast hb2 hrow2 htake p0 p1 q0 q1 r0 r1 z0 z1
      go_wp2
      refine bodyPost_ret (v := .agg #[.bool (!(na == nb) && decide (0 < (limbs P).length)), .slice (some ⟨w.heap.size + 1 + 1 + 1, 0, none⟩) (limbs P).length 3]) (by simp [results, Tryd.results82, go_sem, p0', p1']) rfl ⟨_, rfl, ⟨_, 3, rfl, ⟨?_, (fun h => by cases h), HM3.out, by omega⟩⟩, ?_⟩
      · exact ((HR2.out.set (by show w.heap.size + 1 + 1 < _; omega) _).set (by show w.heap.size + 1 + 1 < _; omega) _).low (by omega)
      · exact (HF2.out.setCell (by show w.heap.size ≤ w.heap.size + 1 + 1; omega) _).setCell (by show w.heap.size ≤ w.heap.size + 1 + 1; omega) _

/-- The digits of the product of 0 and one digit. -/
theorem zeros_cut {m : Nat} (hm : m ≤ ([0, 0] : List Int).length) (hl : 0 < m → ([0, 0] : List Int).getD (m - 1) 0 ≠ 0) : m = 0 := by
  refine Nat.eq_zero_of_not_pos fun h => hl h ?_
  match m, hm with
  | 0, _ => rfl
  | 1, _ => rfl
  | 2, _ => rfl

theorem made2 : madeCells #[Value.int .i64 0] 2 = #[.int .i64 0, .int .i64 0] := by kernel_rfl
theorem make2 (W : World) : (Instr.makeSlice 43 (.int .i64 2) (.int .i64 2)).run Tryd.prog W = .ok (.slice (some ⟨W.heap.size, 0, none⟩) 2 2) (W.alloc (.cells #[.int .i64 0, .int .i64 0] 2)) := by
  have h := run_make_row' (P := Tryd.prog) 43 2 (.int .i64 0) 8 Tryd.underlying43 Tryd.info2 rfl .i64 .i64 2 (by omega) (by omega) W
  rw [made2] at h
  exact h

set_option maxRecDepth 100000 in
set_option maxHeartbeats 2000000 in
theorem mul_01 (na nb : Bool) (ao bo : Option Addr) (ca cb : Nat) (w : World) :
    Calls Tryd.prog 82 #[.agg #[.bool na, .slice ao 0 ca], .agg #[.bool nb, .slice bo 1 cb]] w fun e w' => ∃ v, e = .returned v ∧ ZVal w.heap.size (na != nb) 0 w' v ∧ Below w.heap.size w w' := by
  have hmk := make2
  have hB : Below w.heap.size w ((((w.alloc (.cells #[.bool na, .slice ao 0 ca] 45)).alloc (.cells #[.bool nb, .slice bo 1 cb] 45)).alloc (.cells #[.bool false, .slice none 0 0] 45)).alloc (.cells #[.int .i64 0, .int .i64 0] 2)) := (three_below _ _ _ _ _ _ _).alloc (by simp; omega) _
  have hB3 : Below (w.heap.size + 3) (((w.alloc (.cells #[.bool na, .slice ao 0 ca] 45)).alloc (.cells #[.bool nb, .slice bo 1 cb] 45)).alloc (.cells #[.bool false, .slice none 0 0] 45)) ((((w.alloc (.cells #[.bool na, .slice ao 0 ca] 45)).alloc (.cells #[.bool nb, .slice bo 1 cb] 45)).alloc (.cells #[.bool false, .slice none 0 0] 45)).alloc (.cells #[.int .i64 0, .int .i64 0] 2)) := (Below.refl _ _).alloc (by simp) _
  have HB := Lib.hid hB
  have HB3 := Lib.hid hB3
  clear hB hB3
  go_enter Tryd.func82, Tryd.ntmps82
  go_wp2
  go_loop [6, 7, 8] (fun i _ _ => i = .int .i64 0) (fun _ _ _ => 0)
  case atStart => rfl
  case round =>
    subst hrel
    go_wp2_with fail
    have hrowat : RowAt (w.heap.size + 3) ((((w.alloc (.cells #[.bool na, .slice ao 0 ca] 45)).alloc (.cells #[.bool nb, .slice bo 1 cb] 45)).alloc (.cells #[.bool false, .slice none 0 0] 45)).alloc (.cells #[.int .i64 0, .int .i64 0] 2)) (some ⟨w.heap.size + 1 + 1 + 1, 0, none⟩) [0, 0] := fun _ => ⟨w.heap.size + 1 + 1 + 1, 0, rfl, by omega, by simp, fun t ht => by
      match t, ht with
      | 0, _ => simp [go_sem]
      | 1, _ => simp [go_sem]⟩
    refine (cut_any _ _ [0, 0] 2 _ (hrowat.low (Nat.zero_le _)) (fun h => by cases h) (by simp) (by omega)).mono ?_
    rintro e w2 ⟨m, hm, rfl, hz, hlast, hb2⟩
    have hm0 := zeros_cut hm hlast
    subst hm0
    have hb3 := HB3.out.trans (hb2.mono (by simp))
    have p0' := (own3 hb3 0).2.2.1
    have p1' := (own3 hb3 1).2.2.1
    have q0' := (own3 hb3 0).2.2.2.1
    have q1' := (own3 hb3 1).2.2.2.1
    have hs2 := (own3 hb3 0).2.2.2.2
    have HF2 : Hid (Below w.heap.size w w2) := HB.out.trans (hb2.mono (by simp; omega))
    clear hm hz hlast hb2 hb3 hrowat
    simp only [List.getElem?_toArray, List.getElem?_cons_zero, List.getElem?_cons_succ] at p0' p1'
    go_wp2
    refine bodyPost_ret (v := .agg #[.bool false, .slice (some ⟨w.heap.size + 1 + 1 + 1, 0, none⟩) 0 2]) (by simp [results, Tryd.results82, go_sem, p0', p1']) rfl ⟨_, rfl, ⟨some ⟨w.heap.size + 1 + 1 + 1, 0, none⟩, 2, by rw [limbs_zero]; simp, ⟨fun h => by rw [limbs_zero] at h; simp at h, (fun h => by cases h), by rw [limbs_zero]; simp, by omega⟩⟩, ?_⟩
    exact (HF2.out.setCell (by show w.heap.size ≤ w.heap.size + 1 + 1; omega) _).setCell (by show w.heap.size ≤ w.heap.size + 1 + 1; omega) _

/-- The product of two integers of at most one digit, the second one not 0. -/
theorem mul_any (na nb : Bool) (x y : Nat) (va vb : Value) (w : World) (ha : ZVal 0 na x w va) (hb : ZVal 0 nb y w vb) (hx : x < 10000) (hy : y < 10000) (hy0 : 0 < y) :
    Calls Tryd.prog 82 #[va, vb] w fun e w' => ∃ v, e = .returned v ∧ ZVal w.heap.size (na != nb) (x * y) w' v ∧ Below w.heap.size w w' := by
  obtain ⟨b', o', cb, rfl, c2, -, b2, -⟩ := one_digit hb hy0 hy
  by_cases h0 : x = 0
  · subst h0
    obtain ⟨ao, ca, rfl, -⟩ := no_digit ha
    rw [Nat.zero_mul]
    refine (mul_01 false nb ao _ ca cb w).mono ?_
    rintro e w' ⟨v, rfl, hv, hb⟩
    refine ⟨v, rfl, ?_, hb⟩
    obtain ⟨ao, cap, rfl, hd⟩ := hv
    exact ⟨ao, cap, by rw [limbs_zero]; simp, hd⟩
  · obtain ⟨b, o, ca, rfl, c1, -, b1, -⟩ := one_digit ha (by omega) hx
    exact mul_11 na nb b o b' o' ca cb x y w c1 c2 b1 b2 hx hy (by omega) hy0

end Go.Proofs.YthmjcjoecelnmaaDoor
