/-
  l01ZDiv by its contract at integers of at most one digit, the second one not 0: quotient and rest.
-/
import Derived.Test.YthmjcjoecelnmaaDoorFc
import Derived.Deep.RegionWith
import Derived.Deep.CutRange
namespace Go.Proofs.YthmjcjoecelnmaaDoor
open Go.RowKit
set_option linter.unusedVariables false

/-- What is known of the four blocks that a walk laid first, later. -/
theorem own4 {w w1 : World} {c c' c'' c3 : Array Value} {t t' t'' t3 : TypeId} (hb : Below (w.heap.size + 4) ((((w.alloc (.cells c t)).alloc (.cells c' t')).alloc (.cells c'' t'')).alloc (.cells c3 t3)) w1) (i : Nat) :
    w1.cell? ⟨w.heap.size, i, none⟩ = c[i]? ∧ w1.cell? ⟨w.heap.size + 1, i, none⟩ = c'[i]? ∧ w1.cell? ⟨w.heap.size + 1 + 1, i, none⟩ = c''[i]? ∧ w1.cell? ⟨w.heap.size + 1 + 1 + 1, i, none⟩ = c3[i]? ∧ w1.frozen? ⟨w.heap.size + 1 + 1, i, none⟩ = false ∧ w1.frozen? ⟨w.heap.size + 1 + 1 + 1, i, none⟩ = false ∧ w.heap.size + 3 < w1.heap.size := by
  have hs := hb.size
  simp at hs
  refine ⟨?_, ?_, ?_, ?_, ?_, ?_, by omega⟩
  · rw [hb.cell (p := ⟨w.heap.size, i, none⟩) (show w.heap.size < _ by omega)]; simp [go_sem]
  · rw [hb.cell (p := ⟨w.heap.size + 1, i, none⟩) (show w.heap.size + 1 < _ by omega)]; simp [go_sem]
  · rw [hb.cell (p := ⟨w.heap.size + 1 + 1, i, none⟩) (show w.heap.size + 1 + 1 < _ by omega)]; simp [go_sem]
  · rw [hb.cell (p := ⟨w.heap.size + 1 + 1 + 1, i, none⟩) (show w.heap.size + 1 + 1 + 1 < _ by omega)]; simp [go_sem]
  · rw [hb.frozen (p := ⟨w.heap.size + 1 + 1, i, none⟩) (show w.heap.size + 1 + 1 < _ by omega)]; simp [go_sem]
  · rw [hb.frozen (p := ⟨w.heap.size + 1 + 1 + 1, i, none⟩) (show w.heap.size + 1 + 1 + 1 < _ by omega)]; simp [go_sem]

theorem four_below (w : World) (c c' c'' c3 : Array Value) (t t' t'' t3 : TypeId) : Below w.heap.size w ((((w.alloc (.cells c t)).alloc (.cells c' t')).alloc (.cells c'' t'')).alloc (.cells c3 t3)) := (three_below _ _ _ _ _ _ _).alloc (by simp; omega) _

theorem made1 : madeCells #[Value.int .i64 0] 1 = #[.int .i64 0] := by kernel_rfl
theorem make1 (W : World) : (Instr.makeSlice 43 (.int .i64 1) (.int .i64 1)).run Tryd.prog W = .ok (.slice (some ⟨W.heap.size, 0, none⟩) 1 1) (W.alloc (.cells #[.int .i64 0] 2)) := by
  have h := run_make_row' (P := Tryd.prog) 43 2 (.int .i64 0) 8 Tryd.underlying43 Tryd.info2 rfl .i64 .i64 1 (by omega) (by omega) W
  rw [made1] at h
  exact h

/-- The result of a Cut of one digit that is not 0, or of none. -/
theorem cut_one (b o cap x : Nat) (w : World) (hx : w.cell? ⟨b, o, none⟩ = some (.int .i64 x)) (hbl : b < w.heap.size) (h0 : 0 < x) (h1 : x < 10000) (hc : 1 ≤ cap) (hc2 : cap ≤ 9223372036854775807) :
    Calls Tryd.prog 55 #[.bool false, .slice (some ⟨b, o, none⟩) 1 cap] w fun e w' => e = .returned (.agg #[.bool false, .slice (some ⟨b, o, none⟩) 1 cap]) ∧ Below w.heap.size w w' := by
  have hr : RowAt 0 w (some ⟨b, o, none⟩) [(x : Int)] := fun _ => ⟨b, o, rfl, Nat.zero_le _, hbl, fun t ht => by
    match t, ht with
    | 0, _ => exact hx⟩
  refine (cut_any false (some ⟨b, o, none⟩) [(x : Int)] cap w hr (fun h => by cases h) hc hc2).mono ?_
  rintro e w' ⟨m, hm, rfl, hz, hl, hb⟩
  obtain ⟨rfl, -⟩ := cut1 h1 hm hz hl
  rw [limbs_one_digit h0 h1]
  exact ⟨rfl, hb⟩
theorem cut_no (neg : Bool) (ao : Option Addr) (cap : Nat) (w : World) (hn : ao = none → cap = 0) (hc2 : cap ≤ 9223372036854775807) :
    Calls Tryd.prog 55 #[.bool neg, .slice ao 0 cap] w fun e w' => e = .returned (.agg #[.bool false, .slice ao 0 cap]) ∧ Below w.heap.size w w' := by
  refine (cut_any neg ao [] cap w (fun h => by simp at h) hn (Nat.zero_le _) hc2).mono ?_
  rintro e w' ⟨m, hm, rfl, hz, hl, hb⟩
  obtain rfl : m = 0 := by simpa using hm
  exact ⟨by simp, hb⟩

theorem zval_zero {lo : Nat} (ao : Option Addr) (cap : Nat) (w : World) (hn : ao = none → cap = 0) (hc : cap ≤ 9223372036854775807) : ZVal lo false 0 w (.agg #[.bool false, .slice ao 0 cap]) :=
  ⟨ao, cap, by rw [limbs_zero]; simp, ⟨fun h => by rw [limbs_zero] at h; simp at h, hn, by rw [limbs_zero]; simp, hc⟩⟩
theorem zval_one {lo : Nat} {b o cap x : Nat} {neg : Bool} {w : World} (hx : w.cell? ⟨b, o, none⟩ = some (.int .i64 x)) (hlo : lo ≤ b) (hbl : b < w.heap.size) (h0 : 0 < x) (h1 : x < 10000) (hc : 1 ≤ cap) (hc2 : cap ≤ 9223372036854775807) : ZVal lo neg x w (.agg #[.bool neg, .slice (some ⟨b, o, none⟩) 1 cap]) :=
  ⟨some ⟨b, o, none⟩, cap, by rw [limbs_one_digit h0 h1]; simp, ⟨fun _ => ⟨b, o, rfl, hlo, hbl, fun t ht => by
    rw [limbs_one_digit h0 h1] at ht ⊢
    match t, ht with
    | 0, _ => exact hx⟩, (fun h => by cases h), by rw [limbs_one_digit h0 h1]; exact hc, hc2⟩⟩

/-- What the division returns. -/
def DivRes (x y : Nat) (w : World) (e : Ending) (w' : World) : Prop :=
  ∃ q r, e = .returned (.tuple #[q, r]) ∧ ZVal w.heap.size false (x / y) w' q ∧ ZVal w.heap.size false (x % y) w' r ∧ Below w.heap.size w w'

set_option maxRecDepth 100000 in
set_option maxHeartbeats 2000000 in
theorem div_0 (nb : Bool) (b' o' ca cb y : Nat) (ao : Option Addr) (w : World) (hy : w.cell? ⟨b', o', none⟩ = some (.int .i64 y)) (hbl' : b' < w.heap.size) (h2 : y < 10000) (h4 : 0 < y) (hn : ao = none → ca = 0) (hca2 : ca ≤ 9223372036854775807) (hcb : 1 ≤ cb) (hcb2 : cb ≤ 9223372036854775807) :
    Calls Tryd.prog 84 #[.agg #[.bool false, .slice ao 0 ca], .agg #[.bool nb, .slice (some ⟨b', o', none⟩) 1 cb]] w (DivRes 0 y w) := by
  have hW := four_below w #[.bool false, .slice ao 0 ca] #[.bool nb, .slice (some ⟨b', o', none⟩) 1 cb] #[.bool false, .slice none 0 0] #[.bool false, .slice none 0 0] 45 45 45 45
  have HW := Lib.hid hW
  have hcut := cut_one b' o' cb y _ ((hW.cell (p := ⟨b', o', none⟩) hbl').trans hy) (by simp; omega) h4 h2 hcb hcb2
  have HCut := Lib.hid hcut
  have HN := Lib.hid hn
  clear hW hcut hn hy
  go_enter Tryd.func84, Tryd.ntmps84
  go_wp2_with fail
  refine HCut.out.mono ?_
  rintro e w2 ⟨rfl, hb2⟩
  have hb3 := hb2.mono (B' := w.heap.size + 4) (by simp)
  have HB3 := Lib.hid hb3
  have p1 := (own4 hb3 1).1
  have q1 := (own4 hb3 1).2.1
  have hsz := (own4 hb3 0).2.2.2.2.2.2
  have g0 : w.heap.size < w2.heap.size := by omega
  have g1 : w.heap.size + 1 < w2.heap.size := by omega
  have g2 : w.heap.size + 1 + 1 < w2.heap.size := by omega
  have g3 : w.heap.size + 1 + 1 + 1 < w2.heap.size := by omega
  clear hb2 hb3
  simp only [List.getElem?_toArray, List.getElem?_cons_zero, List.getElem?_cons_succ] at p1 q1
  go_wp2_with fail
  refine (cut_no false ao ca _ HN.out hca2).mono ?_
  rintro e w3 ⟨rfl, hb4⟩
  have hb5 := HB3.out.trans ((((Below.refl _ w2).alloc (Nat.le_refl _) _).trans (hb4.mono (by simp))).mono (by omega))
  have r0 := (own4 hb5 0).2.2.1
  have r1 := (own4 hb5 1).2.2.1
  have r2 := (own4 hb5 0).2.2.2.1
  have r3 := (own4 hb5 1).2.2.2.1
  have z0 := (own4 hb5 0).2.2.2.2.1
  have z1 := (own4 hb5 1).2.2.2.2.1
  have z2 := (own4 hb5 0).2.2.2.2.2.1
  have z3 := (own4 hb5 1).2.2.2.2.2.1
  have hs3 := (own4 hb5 0).2.2.2.2.2.2
  have k2 : w.heap.size + 1 + 1 < w3.heap.size := by omega
  have k3 : w.heap.size + 1 + 1 + 1 < w3.heap.size := by omega
  have HF : Hid (Below w.heap.size w w3) := HW.out.trans (hb5.mono (by omega))
  simp only [List.getElem?_toArray, List.getElem?_cons_zero, List.getElem?_cons_succ] at r0 r1 r2 r3
  clear hb4 hb5 p1 q1
  go_wp2
  refine bodyPost_ret (v := .tuple #[.agg #[.bool false, .slice none 0 0], .agg #[.bool false, .slice ao 0 ca]]) (by simp [results, Tryd.results84, go_sem, r0, r1, r2, r3]) rfl ⟨_, _, rfl, ?_, ?_, ?_⟩
  · rw [Nat.zero_div]; exact zval_zero none 0 _ (fun _ => rfl) (by omega)
  · rw [Nat.zero_mod]; exact zval_zero ao ca _ HN.out hca2
  · exact (((HF.out.setCell (by show w.heap.size ≤ w.heap.size + 1 + 1; omega) _).setCell (by show w.heap.size ≤ w.heap.size + 1 + 1; omega) _).setCell (by show w.heap.size ≤ w.heap.size + 1 + 1 + 1; omega) _).setCell (by show w.heap.size ≤ w.heap.size + 1 + 1 + 1; omega) _

end Go.Proofs.YthmjcjoecelnmaaDoor
