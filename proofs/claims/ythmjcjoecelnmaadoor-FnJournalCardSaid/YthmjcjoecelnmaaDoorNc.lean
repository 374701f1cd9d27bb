/-
  l01Int, l01ZDigits, l01IntegerQ and l01Text by their contracts: the text of a fraction. Conditions: at most 30 digits to the base 10000, each below it.
-/
import Derived.Test.YthmjcjoecelnmaaDoorNb
namespace Go.Proofs.YthmjcjoecelnmaaDoor
open Go.RowKit
set_option linter.unusedVariables false

/-- A fraction in memory: two integers. -/
def QVal (lo : Nat) (neg : Bool) (n d : Nat) (w : World) (v : Value) : Prop :=
  ∃ ao cap bo cbp, v = .agg #[.bool (neg && decide (0 < (limbs n).length)), .slice ao (limbs n).length cap, .bool false, .slice bo (limbs d).length cbp] ∧ DAt lo w ao cap (limbs n) ∧ DAt lo w bo cbp (limbs d)
def QRes (neg : Bool) (n d : Nat) (w : World) (e : Ending) (w' : World) : Prop := ∃ v, e = .returned v ∧ QVal w.heap.size neg n d w' v ∧ Below w.heap.size w w'

theorem natAbs_one : (1 : Int).natAbs = 1 := rfl

set_option maxHeartbeats 1000000 in
theorem int_any (x : Int) (w : World) (h0 : -9223372036854775808 ≤ x) (h1 : x ≤ 9223372036854775807) :
    Calls Tryd.prog 24 #[.int .i64 x] w (QRes (decide (x < 0)) x.natAbs 1 w) := by
  go_enter Tryd.func24, Tryd.ntmps24
  go_wp2_with fail
  refine (zof_any _ _ h0 h1).mono ?_
  rintro e w1 ⟨v, rfl, ⟨ao, cap, rfl, hd⟩, hb⟩
  have hb1 : Below (w.heap.size + 1) _ w1 := hb.mono (by simp)
  have HB1 := Lib.hid hb1
  have HD : Hid (DAt (w.heap.size + 1) w1 ao cap (limbs x.natAbs)) := hd.low (by simp)
  clear hb hb1 hd
  go_wp2_with fail
  refine (zof_any _ _ (by omega) (by omega)).mono ?_
  rintro e w2 ⟨v, rfl, ⟨bo, cbp, rfl, hd2⟩, hb2⟩
  have hb3 : Below (w.heap.size + 1) _ w2 := HB1.out.trans (hb2.mono (own1 HB1.out 0).2.2)
  have p0 : w2.cell? ⟨w.heap.size, 0, none⟩ = some (.bool false) := (own1 hb3 0).1
  have p1 : w2.cell? ⟨w.heap.size, 1, none⟩ = some (.slice none 0 0) := (own1 hb3 1).1
  have p2 : w2.cell? ⟨w.heap.size, 2, none⟩ = some (.bool false) := (own1 hb3 2).1
  have p3 : w2.cell? ⟨w.heap.size, 3, none⟩ = some (.slice none 0 0) := (own1 hb3 3).1
  have q0 := (own1 hb3 0).2.1
  have q1 := (own1 hb3 1).2.1
  have q2 := (own1 hb3 2).2.1
  have q3 := (own1 hb3 3).2.1
  have hs := (own1 hb3 0).2.2
  have HB3 : Hid (Below w.heap.size w w2) := ((Below.refl _ _).alloc (Nat.le_refl _) _).trans (hb3.mono (Nat.le_succ _))
  have HD1 : Hid (DAt (w.heap.size + 1) w2 ao cap (limbs x.natAbs)) := HD.out.keep hb2
  have HD2 : Hid (DAt (w.heap.size + 1) w2 bo cbp (limbs 1)) := hd2.low (own1 HB1.out 0).2.2
  clear hb2 hb3 hd2
  go_wp2
  refine bodyPost_ret (v := .agg #[.bool (decide (x < 0) && decide (0 < (limbs x.natAbs).length)), .slice ao (limbs x.natAbs).length cap, .bool false, .slice bo (limbs 1).length cbp]) (by simp [results, Tryd.results24, go_sem, p0, p1, p2, p3]) rfl ⟨_, rfl, ⟨ao, cap, bo, cbp, rfl, ?_, ?_⟩, ?_⟩
  · exact ((((HD1.out.set (Nat.lt_succ_self _) _).set (Nat.lt_succ_self _) _).set (Nat.lt_succ_self _) _).set (Nat.lt_succ_self _) _).low (Nat.le_succ _)
  · exact ((((HD2.out.set (Nat.lt_succ_self _) _).set (Nat.lt_succ_self _) _).set (Nat.lt_succ_self _) _).set (Nat.lt_succ_self _) _).low (Nat.le_succ _)
  · exact (((HB3.out.setCell (Nat.le_refl _) _).setCell (Nat.le_refl _) _).setCell (Nat.le_refl _) _).setCell (Nat.le_refl _) _

/-- The four digits of a number below 10000. -/
def four (x : Int) : List UInt8 := [UInt8.ofNat (48 + x.toNat / 1000), UInt8.ofNat (48 + x.toNat / 100 % 10), UInt8.ofNat (48 + x.toNat / 10 % 10), UInt8.ofNat (48 + x.toNat % 10)]
/-- The digits of the first k numbers, the last one ahead. -/
def grp (ds : List Int) : Nat → List UInt8
  | 0 => []
  | k + 1 => four (ds.getD k 0) ++ grp ds k

theorem bytes_eq (s : ByteArray) (l : List UInt8) (h : s.data.toList = l) : s = ⟨l.toArray⟩ := by
  subst h; rfl
/-- The digits without zeros ahead; one zero where nothing is left. -/
def zdig (ds : List Int) : List UInt8 := match (grp ds ds.length).dropWhile (· == 48) with | [] => [48] | c :: l => c :: l
theorem zdig_nil {ds : List Int} (h : (grp ds ds.length).dropWhile (· == 48) = []) : zdig ds = [48] := by unfold zdig; rw [h]
theorem zdig_cons {ds : List Int} {c : UInt8} {l : List UInt8} (h : (grp ds ds.length).dropWhile (· == 48) = c :: l) : zdig ds = c :: l := by unfold zdig; rw [h]
theorem extract_one (c : UInt8) (l : List UInt8) : (⟨(c :: l).toArray⟩ : ByteArray).extract 1 (l.length + 1) = ⟨l.toArray⟩ := by
  apply bytes_eq
  rw [Lib.extract_data]
  simp

/-- The length of a string in a slot. -/
def strSize : Value → Nat | .string s => s.size | _ => 0

theorem grp_length (ds : List Int) (k : Nat) : (grp ds k).length = 4 * k := by
  induction k with
  | zero => rfl
  | succ k ih => simp [grp, four, ih]; omega

theorem four_conv (wr : World) (z : Int) (h0 : 0 ≤ z) (h1 : z < 10000) :
    ∃ F : ByteArray, F.data.toList = four z ∧ F.size = 4 ∧ (convert 34 9 (.slice (some ⟨wr.heap.size, 0, none⟩) 4 4)).run Tryd.prog (wr.alloc (.cells #[.int .u8 (48 + z / 1000), .int .u8 (48 + z / 100 % 10), .int .u8 (48 + z / 10 % 10), .int .u8 (48 + z % 10)] 5)) = .ok (.string F) (wr.alloc (.cells #[.int .u8 (48 + z / 1000), .int .u8 (48 + z / 100 % 10), .int .u8 (48 + z / 10 % 10), .int .u8 (48 + z % 10)] 5)) := by
  refine ⟨strOfNums [48 + z / 1000, 48 + z / 100 % 10, 48 + z / 10 % 10, 48 + z % 10], ?_, ?_, run_convert_bytes_arg (P := Tryd.prog) _ 34 5 Tryd.underlying34 Tryd.underlying5 wr.heap.size 0 4 4 _ rfl (fun i hi => ?_) 9 Tryd.underlying9⟩
  · obtain ⟨m, rfl⟩ := Int.eq_ofNat_of_zero_le h0
    simp only [strOfNums, four, List.map_cons, List.map_nil]
    congr 1
  · simp [strOfNums, ByteArray.size]
  · rw [Nat.zero_add]
    match i, hi with
    | 0, _ => simp [go_sem]
    | 1, _ => simp [go_sem]
    | 2, _ => simp [go_sem]
    | 3, _ => simp [go_sem]

set_option maxRecDepth 100000 in
set_option maxHeartbeats 1000000 in
theorem digits_any (neg : Bool) (ao : Option Addr) (ds : List Int) (cap : Nat) (w : World) (hd : DAt 0 w ao cap ds) (hl : ds.length ≤ 30) (hb : ∀ x ∈ ds, 0 ≤ x ∧ x < 10000) :
    Calls Tryd.prog 41 #[.agg #[.bool neg, .slice ao ds.length cap]] w fun e w' => e = .returned (.string ⟨(zdig ds).toArray⟩) ∧ Below w.heap.size w w' := by
  have HD := Lib.hid hd
  generalize hn : ds.length = n at *
  have Hn := Lib.hid hn
  have HX := Lib.hid hb
  clear hd hn hb
  go_enter Tryd.func41, Tryd.ntmps41
  go_wp2
  go_loopw [3, 4] (fun s i wr => ∃ k : Nat, ∃ S : ByteArray, k ≤ n ∧ i = .int .i64 k ∧ s = .string S ∧ S.data.toList = grp ds k ∧ Below (w.heap.size + 1) (w.alloc (.cells #[.bool neg, .slice ao n cap] 45)) wr) (fun _ i _ => n - (intOf i).toNat)
  case atStart => exact ⟨0, ⟨#[]⟩, by omega, rfl, rfl, rfl, Below.refl _ _⟩
  case round =>
    obtain ⟨k, S, hk, rfl, rfl, hS, hbw⟩ := hrel
    have HS := Lib.hid hS
    have HB := Lib.hid hbw
    have p1 : wr.cell? ⟨w.heap.size, 1, none⟩ = some (.slice ao n cap) := (own1 hbw 1).1
    clear hS hbw
    by_cases hlt : k < n
    · obtain ⟨b, o, rfl, -, hbl, hc⟩ := HD.out.row (by have := Hn.out; omega)
      have hc1 : wr.cell? ⟨b, o + k, none⟩ = some (.int .i64 (ds.getD k 0)) := by
        rw [HB.out.cell (p := ⟨b, o + k, none⟩) (Nat.lt_succ_of_lt hbl), World.cell?_alloc_lt _ _ _ hbl]
        exact hc k (by have := Hn.out; omega)
      have hx : 0 ≤ ds.getD k 0 ∧ ds.getD k 0 < 10000 := HX.out _ (by
        rw [List.getD_eq_getElem?_getD, List.getElem?_eq_getElem (by have := Hn.out; omega)]
        exact List.getElem_mem _)
      obtain ⟨x0, x1⟩ := hx
      clear hc
      generalize hz : ds.getD k 0 = z at *
      have Hz := Lib.hid hz
      clear hz
      have hsz := (own1 HB.out 0).2.2
      have y0 : 0 ≤ z / 1000 := by omega
      have y1 : z / 1000 ≤ 9 := by omega
      have y2 : 0 ≤ z / 100 % 10 := by omega
      have y3 : z / 100 % 10 ≤ 9 := by omega
      have y4 : 0 ≤ z / 10 % 10 := by omega
      have y5 : z / 10 % 10 ≤ 9 := by omega
      obtain ⟨F, hF1, hF2, hcv⟩ := four_conv wr z x0 x1
      have HF1 := Lib.hid hF1
      have hlen : S.size ≤ 120 := by
        have h := grp_length ds k
        rw [← HS.out] at h
        simp at h
        have : S.data.size = S.size := rfl
        omega
      have HB2 : ∀ c t, Hid (Below (w.heap.size + 1) (w.alloc (.cells #[.bool neg, .slice (some ⟨b, o, none⟩) n cap] 45)) (wr.alloc (.cells c t))) := fun c t => HB.out.alloc (by omega) _
      have HB3 := Lib.hid HB2
      clear hF1 HB2
      go_wp2
      go_roundw
      case rel => exact ⟨k + 1, F ++ S, by omega, by go_num, rfl, by rw [ByteArray.data_append, Array.toList_append, HF1.out, HS.out, ← Hz.out]; rfl, (HB3.out _ _).out⟩
      case measure => simp [intOf]; omega
    · obtain rfl : k = n := by omega
      have hS2 := bytes_eq _ _ HS.out
      subst hS2
      have HL : Hid ((grp ds k).length = 4 * k) := grp_length ds k
      have HBW : Hid (Below w.heap.size w wr) := ((Below.refl _ _).alloc (Nat.le_refl _) _).trans (HB.out.mono (Nat.le_succ _))
      go_wp2
      go_loop [3] (fun s => ∃ L : List UInt8, s = .string ⟨L.toArray⟩ ∧ L.dropWhile (· == 48) = (grp ds k).dropWhile (· == 48) ∧ L.length ≤ 120) (fun s => strSize s)
      case atStart => exact ⟨grp ds k, rfl, rfl, by have := HL.out; omega⟩
      case round =>
        obtain ⟨L, rfl, hdw, hl2⟩ := hrel
        have HDW := Lib.hid hdw
        clear hdw
        match L, HDW, hl2 with
        | [], HDW, _ =>
          have HE : Hid (zdig ds = [48]) := zdig_nil (by rw [Hn.out, ← HDW.out]; rfl)
          go_wp2
          go_ret
          exact ⟨ret_str (by rw [HE.out]), HBW.out⟩
        | c :: l, HDW, hl2 =>
          go_wp2
          · have hc : ((c.toNat : Int) == 48) = true := by assumption
            have hc2 : c = 48 := by
              have h1 : (c.toNat : Int) = 48 := by simpa using hc
              exact UInt8.toNat_inj.1 (by show c.toNat = 48; omega)
            go_round
            case rel =>
              refine ⟨l, by rw [extract_one], ?_, by simp at hl2; omega⟩
              have h := HDW.out
              rw [hc2] at h
              simpa [List.dropWhile_cons] using h
            case measure => rw [extract_one]; simp [strSize, ByteArray.size]
          · have hc : ((c.toNat : Int) == 48) = false := by assumption
            have HE : Hid (zdig ds = c :: l) := zdig_cons (by
              rw [Hn.out, ← HDW.out]
              have h1 : (c == 48) = false := by
                rw [beq_eq_false_iff_ne]
                intro h2
                subst h2
                exact absurd hc (by decide)
              rw [List.dropWhile_cons, h1]
              simp)
            go_ret
            exact ⟨ret_str (by rw [HE.out]), HBW.out⟩

end Go.Proofs.YthmjcjoecelnmaaDoor
