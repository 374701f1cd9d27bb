/-
  l01IntegerQ and l01Text by their contracts: the text of a fraction. Conditions: at most 30 digits to the base 10000, each below it.
-/
import Derived.Test.YthmjcjoecelnmaaDoorNc
namespace Go.Proofs.YthmjcjoecelnmaaDoor
open Go.RowKit
set_option linter.unusedVariables false

/-- Whether the digits are those of 1. -/
def isOne (ds : List Int) : Bool := decide (ds.length = 1) && decide (ds.getD 0 0 = 1)

set_option maxHeartbeats 400000 in
theorem integerQ_any (ng mg : Bool) (ao bo : Option Addr) (ds es : List Int) (ca cb : Nat) (w : World) (he : DAt 0 w bo cb es) (hl : es.length ≤ 1000) :
    Calls Tryd.prog 42 #[.agg #[.bool ng, .slice ao ds.length ca, .bool mg, .slice bo es.length cb]] w fun e w' => e = .returned (.bool (isOne es)) ∧ Below w.heap.size w w' := by
  have HD := Lib.hid he
  clear he
  have HB : Hid (Below w.heap.size w (w.alloc (.cells #[.bool ng, .slice ao ds.length ca, .bool mg, .slice bo es.length cb] 47))) := (Below.refl _ _).alloc (Nat.le_refl _) _
  by_cases h1 : es.length = 1
  · obtain ⟨b, o, rfl, -, hbl, hc⟩ := HD.out.row (by omega)
    have hc1 := hc 0 (by omega)
    rw [Nat.add_zero] at hc1
    have hlen : ((es.length : Int) == 1) = true := by simp [h1]
    have he : isOne es = (es.getD 0 0 == 1) := by unfold isOne; simp [h1]; rfl
    have HE := Lib.hid he
    have hpos : 0 < es.length := by omega
    have hpos2 : (0 : Int) < (es.length : Int) := by omega
    clear hc h1 he
    generalize es.getD 0 0 = z at *
    generalize es.length = n at *
    go_enter Tryd.func42, Tryd.ntmps42
    go_wp2
    go_ret
    exact ⟨ret_bool HE.out.symm, HB.out⟩
  · have hlen : ((es.length : Int) == 1) = false := by
      rw [beq_eq_false_iff_ne]; omega
    have he : isOne es = false := by unfold isOne; simp [h1]
    have HE := Lib.hid he
    clear h1 he
    generalize es.length = n at *
    go_enter Tryd.func42, Tryd.ntmps42
    go_wp2
    go_ret
    exact ⟨ret_bool HE.out.symm, HB.out⟩

/-- The text of a fraction. -/
def textQ (ng : Bool) (ds es : List Int) : List UInt8 := (if ng then [45] else []) ++ zdig ds ++ (if isOne es then [] else 47 :: zdig es)

theorem zdig_length (ds : List Int) : (zdig ds).length ≤ 4 * ds.length + 1 := by
  have h1 := grp_length ds ds.length
  have h2 : ((grp ds ds.length).dropWhile (· == 48)).length ≤ (grp ds ds.length).length := (List.dropWhile_sublist _).length_le
  unfold zdig
  split
  · simp
  · rename_i c l h
    rw [h] at h2
    omega

set_option maxHeartbeats 1000000 in
theorem text_any (ng mg : Bool) (ao bo : Option Addr) (ds es : List Int) (ca cb : Nat) (w : World) (hd : DAt 0 w ao ca ds) (he : DAt 0 w bo cb es) (hl : ds.length ≤ 30) (hl2 : es.length ≤ 30) (hx : ∀ x ∈ ds, 0 ≤ x ∧ x < 10000) (hy : ∀ x ∈ es, 0 ≤ x ∧ x < 10000) :
    Calls Tryd.prog 23 #[.agg #[.bool ng, .slice ao ds.length ca, .bool mg, .slice bo es.length cb]] w fun e w' => e = .returned (.string ⟨(textQ ng ds es).toArray⟩) ∧ Below w.heap.size w w' := by
  have HD := Lib.hid hd
  have HE := Lib.hid he
  have HX := Lib.hid hx
  have HY := Lib.hid hy
  have HB0 : Hid (Below w.heap.size w (w.alloc (.cells #[.bool ng, .slice ao ds.length ca, .bool mg, .slice bo es.length cb] 47))) := (Below.refl _ _).alloc (Nat.le_refl _) _
  have HZ1 := Lib.hid (zdig_length ds)
  have HZ2 := Lib.hid (zdig_length es)
  clear hd he hx hy
  go_enter Tryd.func23, Tryd.ntmps23
  go_wp2_with fail
  refine (digits_any _ _ ds _ _ (HD.out.keep HB0.out) hl HX.out).mono ?_
  rintro e w1 ⟨rfl, hb1⟩
  have b1 : Below (w.heap.size + 1) _ w1 := hb1.mono (by simp)
  have p0 : w1.cell? ⟨w.heap.size, 0, none⟩ = some (.bool ng) := (own1 b1 0).1
  have p1 : w1.cell? ⟨w.heap.size, 1, none⟩ = some (.slice ao ds.length ca) := (own1 b1 1).1
  have p2 : w1.cell? ⟨w.heap.size, 2, none⟩ = some (.bool mg) := (own1 b1 2).1
  have p3 : w1.cell? ⟨w.heap.size, 3, none⟩ = some (.slice bo es.length cb) := (own1 b1 3).1
  have s1 := (own1 b1 0).2.2
  have HB1 : Hid (Below w.heap.size w w1) := HB0.out.trans (b1.mono (Nat.le_succ _))
  clear hb1 b1
  generalize hA : zdig ds = A at *
  have HA := Lib.hid hA
  have hAl : A.length ≤ 121 := by have := HZ1.out; omega
  clear hA
  cases ng
  all_goals
    go_wp2_with fail
    refine (integerQ_any _ _ _ _ ds es _ _ _ (HE.out.keep HB1.out) (by omega)).mono ?_
    rintro e w2 ⟨rfl, hb2⟩
    have HB2 : Hid (Below w.heap.size w w2) := HB1.out.trans (hb2.mono (Nat.le_of_lt s1))
    have s2 : w.heap.size < w2.heap.size := Nat.lt_of_lt_of_le s1 hb2.size
    have q2 := (hb2.cell (p := ⟨w.heap.size, 2, none⟩) s1).trans p2
    have q3 := (hb2.cell (p := ⟨w.heap.size, 3, none⟩) s1).trans p3
    clear hb2
    cases hone : isOne es
    · go_wp2_with fail
      refine (digits_any _ _ es _ _ (HE.out.keep HB2.out) hl2 HY.out).mono ?_
      rintro e w3 ⟨rfl, hb3⟩
      have HB3 : Hid (Below w.heap.size w w3) := HB2.out.trans (hb3.mono (Nat.le_of_lt s2))
      have hEl : (zdig es).length ≤ 121 := by have := HZ2.out; omega
      have HO := Lib.hid hone
      clear hb3 hone
      generalize hC : zdig es = C at *
      have HC := Lib.hid hC
      clear hC
      go_wp2
      go_ret
      refine ⟨ret_str (bytes_eq _ _ ?_), HB3.out⟩
      unfold textQ
      rw [HA.out, HO.out, HC.out]
      simp [ByteArray.data_append]
    · have HO := Lib.hid hone
      clear hone
      go_wp2
      go_ret
      refine ⟨ret_str (bytes_eq _ _ ?_), HB2.out⟩
      unfold textQ
      rw [HA.out, HO.out]
      simp [ByteArray.data_append]

end Go.Proofs.YthmjcjoecelnmaaDoor
