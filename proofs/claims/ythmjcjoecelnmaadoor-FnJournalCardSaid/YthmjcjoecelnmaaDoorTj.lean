/-
  b10Long, b10At, b10Texts by their contracts; what the law needs of the journal's plain law.
-/
import Derived.Test.YthmjcjoecelnmaaDoorTi
import Derived.Test.YthmjcjoecelnmaaDoorJc
namespace Go.Proofs.YthmjcjoecelnmaaDoor
open Go.RowKit
set_option linter.unusedVariables false

theorem BytesAt.keep {p p' : Nat} {w w' : World} {ao : Option Addr} {n : Nat} (h : BytesAt p w ao n) (hp : p ≤ p') (hb : Below p w w') : BytesAt p' w' ao n := fun t ht => by
  obtain ⟨b, o, z, e, hlt, hc, y⟩ := h t ht
  exact ⟨b, o, z, e, by omega, (hb.cell (p := ⟨b, o + t, none⟩) hlt).trans hc, y⟩

theorem cast_lt (k : Nat) : decide ((1048576 : Int) < (k : Int)) = decide (1048576 < k) := decide_eq_decide.2 (by omega)

theorem long_any (ao bo : Option Addr) (n ca m cb : Nat) (w : World) (hn : n ≤ 9223372036854775807) (hm : m ≤ 9223372036854775807) :
    Calls Tryd.prog 18 #[.slice ao n ca, .slice bo m cb] w fun e w' => e = .returned (.bool (decide (1048576 < n) || decide (1048576 < m))) ∧ w' = w := by
  by_cases h1 : 1048576 < n
  · go_enter Tryd.func18, Tryd.ntmps18
    go_wp2
    go_ret
    refine ⟨?_, rfl⟩
    simp
  · by_cases h2 : 1048576 < m
    · go_enter Tryd.func18, Tryd.ntmps18
      go_wp2
      go_ret
      refine ⟨?_, rfl⟩
      simp
      rw [cast_lt, cast_lt]
    · go_enter Tryd.func18, Tryd.ntmps18
      go_wp2
      go_ret
      refine ⟨?_, rfl⟩
      simp
      rw [cast_lt, cast_lt]

/-- A number from 0 to 255. -/
def ByteRes (e : Ending) : Prop := ∃ z : Nat, e = .returned (.int .i64 z) ∧ z < 256

theorem at_any (ao : Option Addr) (n cap i : Nat) (p : Nat) (w : World) (hn : n ≤ 1048576) (hi : i ≤ 2) (hb : BytesAt p w ao n) :
    Calls Tryd.prog 21 #[.slice ao n cap, .int .i64 i, .int .i64 256] w fun e w' => ByteRes e ∧ w' = w := by
  have HB := Lib.hid hb
  clear hb
  by_cases h : i < n
  · obtain ⟨b, o, z, rfl, hbp, hc, y0, y1⟩ := HB.out i h
    obtain ⟨z, rfl⟩ : ∃ k : Nat, z = k := ⟨z.toNat, by omega⟩
    go_enter Tryd.func21, Tryd.ntmps21
    go_wp2
    go_ret
    refine ⟨⟨z % 256, ?_, Nat.mod_lt _ (by omega)⟩, rfl⟩
    first | rfl | (refine ret_int ?_; omega)
  · go_enter Tryd.func21, Tryd.ntmps21
    go_wp2
    go_ret
    refine ⟨⟨(i * 37 + 11) % 256, ?_, Nat.mod_lt _ (by omega)⟩, rfl⟩
    first | rfl | (refine ret_int ?_; omega)

set_option maxHeartbeats 400000 in
theorem eqB_any (ao bo : Option Addr) (ca cb : Nat) (L : List (List UInt8)) (w : World) (ha : TxtAt 0 w ao L) (hb : TxtAt 0 w bo L) (hl : L.length ≤ 1048576) :
    Calls Tryd.prog 22 #[.slice ao L.length ca, .slice bo L.length cb] w fun e w' => e = .returned (.bool true) ∧ Below w.heap.size w w' := by
  generalize hn : L.length = n at *
  have Hn := Lib.hid hn
  have HA := Lib.hid ha
  have HB := Lib.hid hb
  clear hn ha hb
  go_enter Tryd.func22, Tryd.ntmps22
  go_wp2
  go_loopw [5] (fun i wr => ∃ k : Nat, i = .int .i64 k ∧ k ≤ n ∧ Below w.heap.size w wr) (fun i _ => n - (intOf i).toNat)
  case atStart => exact ⟨0, rfl, Nat.zero_le _, Below.refl _ _⟩
  case round =>
    obtain ⟨k, rfl, hk, hb⟩ := hrel
    have HW := Lib.hid hb
    clear hb
    by_cases hlt : k < n
    · obtain ⟨b1, o1, rfl, -, hbl1, hc1⟩ := HA.out (by rw [Hn.out]; omega)
      obtain ⟨b2, o2, rfl, -, hbl2, hc2⟩ := HB.out (by rw [Hn.out]; omega)
      have d1 := (HW.out.cell (p := ⟨b1, o1 + k, none⟩) hbl1).trans (hc1 k (by rw [Hn.out]; exact hlt))
      have d2 := (HW.out.cell (p := ⟨b2, o2 + k, none⟩) hbl2).trans (hc2 k (by rw [Hn.out]; exact hlt))
      clear hc1 hc2
      unfold sv at d1 d2
      go_wp2
      go_quiet (fail)
      go_wp2
      go_roundw
      case rel => exact ⟨k + 1, by go_num, by omega, below_drewN HW.out _⟩
      case measure => simp [intOf] <;> omega
    · obtain rfl : k = n := by omega
      go_wp2
      go_ret
      exact ⟨rfl, HW.out⟩

/-- One byte as a text. -/
theorem byte_conv (wr : World) (z : Nat) (h1 : z < 256) :
    ∃ F : ByteArray, F.data.toList = [UInt8.ofNat z] ∧ F.size = 1 ∧ (convert 34 9 (.slice (some ⟨wr.heap.size, 0, none⟩) 1 1)).run Tryd.prog (wr.alloc (.cells #[.int .u8 (z : Int)] 5)) = .ok (.string F) (wr.alloc (.cells #[.int .u8 (z : Int)] 5)) := by
  refine ⟨strOfNums [(z : Int)], ?_, ?_, run_convert_bytes_arg (P := Tryd.prog) _ 34 5 Tryd.underlying34 Tryd.underlying5 wr.heap.size 0 1 1 _ rfl (fun i hi => ?_) 9 Tryd.underlying9⟩
  · simp only [strOfNums, List.map_cons, List.map_nil]
    congr 1
  · simp [strOfNums, ByteArray.size]
  · rw [Nat.zero_add]
    match i, hi with
    | 0, _ => simp [go_sem]

theorem byte_run (z : Nat) (h1 : z < 256) (wr : World) :
    (convert 34 9 (.slice (some ⟨wr.heap.size, 0, none⟩) 1 1)).run Tryd.prog (wr.alloc (.cells #[.int .u8 (z : Int)] 5)) = .ok (.string ⟨([UInt8.ofNat z] : List UInt8).toArray⟩) (wr.alloc (.cells #[.int .u8 (z : Int)] 5)) := by
  obtain ⟨F, hF, -, hr⟩ := byte_conv wr z h1
  rw [bytes_eq F _ hF] at hr
  exact hr

theorem lsum_le {K : Nat} (L : List (List UInt8)) (h : ∀ a ∈ L, Cl K a) : lsum L ≤ L.length * K := by
  induction L with
  | nil => simp [lsum]
  | cons a r ih =>
    have h1 := (h a (by simp)).2
    have h2 := ih (fun x hx => h x (by simp [hx]))
    simp only [lsum, List.length_cons, Nat.add_mul]
    omega

theorem jok_lines (L : List (List UInt8)) (hl : L.length ≤ 5) (h : ∀ a ∈ L, Cl 120 a) : JOk L ∧ L.length + lsum L ≤ 1048576 := by
  have h1 := lsum_le L h
  have h2 := (jr_bounds L 0 (by omega) (by omega)).2
  exact ⟨⟨fun a ha => (h a ha).1, by omega⟩, by omega⟩

theorem jr_pos (L : List (List UInt8)) (h : L ≠ []) : 0 < (jr 0 L).length := by
  have h1 := (jr_bounds L 0 (by omega) (by omega)).1
  have h2 : 0 < L.length := List.length_pos_iff.2 h
  omega

/-- How many texts are recovered, and how long they are. -/
theorem texts_small (l : List UInt8) (h : l.length ≤ 4000) : (texts l).length + lsum (texts l) ≤ 1048576 ∧ (texts l).length ≤ 4000 := by
  have h1 := (jok_texts l h).2
  have h2 := (jr_bounds (texts l) 0 (by omega) (by omega)).1
  exact ⟨by omega, by omega⟩

/-- What is recovered of a beginning of a journal. -/
theorem texts_prefix (L : List (List UInt8)) (K : Nat) (h : ∀ a ∈ L, (10 : UInt8) ∉ a) : ∃ k, k ≤ L.length ∧ texts ((jr 0 L).take K) = L.take k ∧ ((jr 0 L).take K).count 10 = k :=
  prefix_one L 0 K (by omega) (by omega) h

theorem count_step (l : List UInt8) (i : Nat) (h : i < l.length) : (l.take (i + 1)).count 10 = (l.take i).count 10 + if l.getD i 0 == 10 then 1 else 0 := by
  rw [List.take_succ_eq_append_getElem h, List.count_append, List.getD_eq_getElem?_getD, List.getElem?_eq_getElem h]
  simp [List.count_singleton]

theorem take_take_le (l : List UInt8) {a b : Nat} (h : a ≤ b) : (l.take b).take a = l.take a := by
  rw [List.take_take]
  congr 1
  omega

theorem txt_take {lo : Nat} {w : World} {ao : Option Addr} {L : List (List UInt8)} (h : TxtAt lo w ao L) (k : Nat) : TxtAt lo w ao (L.take k) := by
  intro h0
  rw [List.length_take] at h0
  obtain ⟨b, o, e, l, hlt, hc⟩ := h (by omega)
  refine ⟨b, o, e, l, hlt, fun t ht => ?_⟩
  rw [List.length_take] at ht
  rw [hc t (by omega)]
  simp [List.getD, show t < k by omega]

end Go.Proofs.YthmjcjoecelnmaaDoor
