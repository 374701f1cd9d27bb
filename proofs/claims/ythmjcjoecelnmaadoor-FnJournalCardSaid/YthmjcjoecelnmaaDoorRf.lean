/-
  The law's own helpers over []string by their contracts: the comparison, the marks, the look at the marks. Conditions: marks from 1 to 4001; at most 4000 texts.
-/
import Derived.Test.YthmjcjoecelnmaaDoorRe
namespace Go.Proofs.YthmjcjoecelnmaaDoor
open Go.RowKit
set_option linter.unusedVariables false

set_option maxHeartbeats 400000 in
theorem eqS_any (ao bo : Option Addr) (ca cb : Nat) (L : List (List UInt8)) (w : World) (ha : TxtAt 0 w ao L) (hb : TxtAt 0 w bo L) (hl : L.length ≤ 1048576) :
    Calls Tryd.prog 11 #[.slice ao L.length ca, .slice bo L.length cb] w fun e w' => e = .returned (.bool true) ∧ Below w.heap.size w w' := by
  generalize hn : L.length = n at *
  have Hn := Lib.hid hn
  have HA := Lib.hid ha
  have HB := Lib.hid hb
  clear hn ha hb
  go_enter Tryd.func11, Tryd.ntmps11
  go_wp2
  go_loopw [5] (fun i wr => ∃ k : Nat, i = .int .i64 k ∧ k ≤ n ∧ Below w.heap.size w wr) (fun i _ => n - (intOf i).toNat)
  case atStart => exact ⟨0, rfl, Nat.zero_le _, Below.refl _ _⟩
  case round =>
    obtain ⟨k, rfl, hk, hb⟩ := hrel
    have HW := Lib.hid hb
    clear hb
    by_cases hlt : k < n
    · obtain ⟨b1, o1, rfl, -, hbl1, hc1⟩ := HA.out (by rw [Hn.out]; omega)
      obtain ⟨b2, o2, rfl, -, hbl2, hc2⟩ := HB.out (by rw [Hn.out]; omega)
      have d1 := (HW.out.cell (p := ⟨b1, o1 + k, none⟩) hbl1).trans (hc1 k (by rw [Hn.out]; exact hlt))
      have d2 := (HW.out.cell (p := ⟨b2, o2 + k, none⟩) hbl2).trans (hc2 k (by rw [Hn.out]; exact hlt))
      clear hc1 hc2
      unfold sv at d1 d2
      go_wp2
      go_quiet (fail)
      go_wp2
      go_roundw
      case rel => exact ⟨k + 1, by go_num, by omega, below_drewN HW.out _⟩
      case measure => simp [intOf] <;> omega
    · obtain rfl : k = n := by omega
      go_wp2
      go_ret
      exact ⟨rfl, HW.out⟩

/-- The digits of a number; none of 0. -/
def digs (k : Nat) : List UInt8 := if k = 0 then [] else Lib.decDigits k
theorem digs_step {k : Nat} (h : 0 < k) : digs k = digs (k / 10) ++ [UInt8.ofNat (48 + k % 10)] := by
  unfold digs
  rw [if_neg (by omega)]
  by_cases h10 : k < 10
  · rw [if_pos (by omega), Lib.decDigits_one h10, show k % 10 = k by omega]
    rfl
  · rw [if_neg (by omega), dec_step k (by omega)]
/-- The mark of a number. -/
def mark (k : Nat) : List UInt8 := 109 :: digs k

theorem one_conv (wr : World) (z : Int) (h0 : 0 ≤ z) (h1 : z < 10) :
    ∃ F : ByteArray, F.data.toList = [UInt8.ofNat (48 + z.toNat)] ∧ F.size = 1 ∧ (convert 34 9 (.slice (some ⟨wr.heap.size, 0, none⟩) 1 1)).run Tryd.prog (wr.alloc (.cells #[.int .u8 (48 + z)] 5)) = .ok (.string F) (wr.alloc (.cells #[.int .u8 (48 + z)] 5)) := by
  refine ⟨strOfNums [48 + z], ?_, ?_, run_convert_bytes_arg (P := Tryd.prog) _ 34 5 Tryd.underlying34 Tryd.underlying5 wr.heap.size 0 1 1 _ rfl (fun i hi => ?_) 9 Tryd.underlying9⟩
  · obtain ⟨m, rfl⟩ := Int.eq_ofNat_of_zero_le h0
    simp only [strOfNums, List.map_cons, List.map_nil]
    congr 1
  · simp [strOfNums, ByteArray.size]
  · rw [Nat.zero_add]
    match i, hi with
    | 0, _ => simp [go_sem]

set_option maxHeartbeats 400000 in
theorem mark_any (K : Nat) (w : World) (h0 : 0 < K) (h1 : K ≤ 9000) :
    Calls Tryd.prog 31 #[.int .i64 K] w fun e w' => e = .returned (sv (mark K)) ∧ Below w.heap.size w w' := by
  unfold sv
  go_enter Tryd.func31, Tryd.ntmps31
  go_wp2
  go_loopw [0, 3] (fun v s wr => ∃ k : Nat, ∃ S : ByteArray, v = .int .i64 k ∧ s = .string S ∧ k ≤ K ∧ digs K = digs k ++ S.data.toList ∧ S.size + k ≤ K ∧ Below w.heap.size w wr) (fun v _ _ => (intOf v).toNat)
  case atStart => exact ⟨K, ⟨#[]⟩, rfl, rfl, Nat.le_refl _, by simp, by simp [ByteArray.size], Below.refl _ _⟩
  case round =>
    obtain ⟨k, S, rfl, rfl, hk, hd, hs, hb⟩ := hrel
    have HB := Lib.hid hb
    have HD := Lib.hid hd
    have hsz := hb.size
    clear hb hd
    by_cases hk0 : 0 < k
    · obtain ⟨F, hF1, hF2, hcv⟩ := one_conv wr ((k : Int) % 10) (by omega) (by omega)
      have HF1 := Lib.hid hF1
      have HB2 : ∀ c t, Hid (Below w.heap.size w (wr.alloc (.cells c t))) := fun c t => HB.out.alloc (by omega) _
      have HB3 := Lib.hid HB2
      have y0 : 0 ≤ (k : Int) % 10 := by omega
      have y1 : (k : Int) % 10 ≤ 9 := by omega
      clear hF1 HB2
      go_wp2
      go_roundw
      case rel =>
        refine ⟨k / 10, F ++ S, by go_num, rfl, by omega, ?_, ?_, (HB3.out _ _).out⟩
        · rw [ByteArray.data_append, Array.toList_append, HF1.out, HD.out, digs_step hk0]
          simp only [List.append_assoc]
          congr 2
        · rw [ByteArray.size_append, hF2]; omega
      case measure => simp [intOf] <;> omega
    · obtain rfl : k = 0 := by omega
      have HE : Hid (digs K = S.data.toList) := by rw [HD.out]; rfl
      go_wp2
      go_ret
      refine ⟨ret_str (bytes_eq _ _ ?_), HB.out⟩
      unfold mark
      rw [HE.out]
      simp [ByteArray.data_append]

end Go.Proofs.YthmjcjoecelnmaaDoor
