/-
  l01Join and l03Text by their contracts: the very text.
-/
import Derived.Test.YthmjcjoecelnmaaDoorRc
import Derived.Test.YthmjcjoecelnmaaDoorSa
namespace Go.Proofs.YthmjcjoecelnmaaDoor
open Go.RowKit
set_option linter.unusedVariables false

/-- Texts with commas ahead of each. -/
def commas : List (List UInt8) → List UInt8
  | [] => []
  | a :: r => 44 :: a ++ commas r
/-- Texts with commas between them. -/
def joinL : List (List UInt8) → List UInt8
  | [] => [110, 111, 110, 101]
  | a :: r => a ++ commas r

/-- No newline, and short. -/
def Cl (K : Nat) (a : List UInt8) : Prop := (10 : UInt8) ∉ a ∧ a.length ≤ K

theorem Cl.more {K K' : Nat} {a : List UInt8} (h : Cl K a) (hk : K ≤ K') : Cl K' a := ⟨h.1, Nat.le_trans h.2 hk⟩
theorem Cl.app {K M : Nat} {a b : List UInt8} (h : Cl K a) (g : Cl M b) : Cl (K + M) (a ++ b) :=
  ⟨by simp [h.1, g.1], by rw [List.length_append]; have := h.2; have := g.2; omega⟩

theorem commas_app (L : List (List UInt8)) (a : List UInt8) : commas (L ++ [a]) = commas L ++ 44 :: a := by
  induction L with
  | nil => simp [commas]
  | cons b r ih => simp [commas, ih]

theorem joinL_step (L : List (List UInt8)) (k : Nat) (h0 : 0 < k) (h : k < L.length) : joinL (L.take (k + 1)) = joinL (L.take k) ++ 44 :: L.getD k [] := by
  cases L with
  | nil => simp at h
  | cons a r =>
    obtain ⟨j, rfl⟩ : ∃ j, k = j + 1 := ⟨k - 1, by omega⟩
    have hj : j < r.length := by simpa using h
    rw [List.take_succ_cons, List.take_succ_cons, List.take_succ_eq_append_getElem hj]
    simp only [joinL, commas_app, List.append_assoc]
    congr 3
    rw [List.getD_cons_succ, List.getD_eq_getElem?_getD, List.getElem?_eq_getElem hj]
    rfl

theorem commas_cl {K : Nat} (L : List (List UInt8)) (h : ∀ a ∈ L, Cl K a) : Cl (L.length * (K + 1)) (commas L) := by
  induction L with
  | nil => simp [commas, Cl]
  | cons a r ih =>
    have h1 := h a (by simp)
    have h2 := ih (fun x hx => h x (by simp [hx]))
    have h3 : Cl (K + 1) (44 :: a) := ⟨by simp [h1.1], by have := h1.2; simp; omega⟩
    refine (h3.app h2).more ?_
    rw [List.length_cons, Nat.add_mul]
    omega

theorem joinL_cl {K : Nat} (L : List (List UInt8)) (h : ∀ a ∈ L, Cl K a) : Cl (4 + L.length * (K + 1)) (joinL L) := by
  cases L with
  | nil => simp [joinL, Cl]
  | cons a r =>
    have h1 := h a (by simp)
    have h2 := commas_cl r (fun x hx => h x (by simp [hx]))
    refine (h1.app h2).more ?_
    rw [List.length_cons, Nat.add_mul]
    omega

theorem joinL_len {K : Nat} (L : List (List UInt8)) (h : ∀ a ∈ L, Cl K a) (k : Nat) : (joinL (L.take k)).length ≤ 4 + L.length * (K + 1) := by
  have h1 := (joinL_cl (L.take k) (fun a ha => h a (List.mem_of_mem_take ha))).2
  have h2 : (L.take k).length * (K + 1) ≤ L.length * (K + 1) := Nat.mul_le_mul_right _ (by rw [List.length_take]; omega)
  omega

theorem bytes_app (a b : List UInt8) : (⟨a.toArray⟩ : ByteArray) ++ (⟨b.toArray⟩ : ByteArray) = ⟨(a ++ b).toArray⟩ :=
  bytes_eq _ _ (by simp [ByteArray.data_append])

set_option maxHeartbeats 1000000 in
theorem join_any (ao : Option Addr) (cap : Nat) (L : List (List UInt8)) (w : World) (ht : TxtAt 0 w ao L) (hl : L.length ≤ 10) (hc : ∀ a ∈ L, Cl 30 a) :
    Calls Tryd.prog 64 #[.slice ao L.length cap] w fun e w' => e = .returned (.string ⟨(joinL L).toArray⟩) ∧ w' = w := by
  have HT := Lib.hid ht
  have HC := Lib.hid hc
  have HLen := Lib.hid (joinL_len L hc)
  have HStep := Lib.hid (joinL_step L)
  generalize hN : L.length = n at *
  have HN := Lib.hid hN
  clear ht hc hN
  go_enter Tryd.func64, Tryd.ntmps64
  by_cases h0 : n = 0
  · subst h0
    have hL : L = [] := List.eq_nil_of_length_eq_zero HN.out
    go_wp2
    go_ret
    subst hL
    exact ⟨rfl, rfl⟩
  · obtain ⟨b, o, rfl, -, hbl, hcell⟩ := HT.out (by rw [HN.out]; omega)
    have c0 : w.cell? ⟨b, o, none⟩ = some (.string ⟨(L.getD 0 []).toArray⟩) := by
      have := hcell 0 (by rw [HN.out]; omega)
      simpa [sv] using this
    have HCell := Lib.hid hcell
    have hpos : 0 < n := by omega
    have j1 : joinL (L.take 1) = L.getD 0 [] := by
      cases L with
      | nil => exact absurd HN.out (by simp; omega)
      | cons a r => simp [joinL, commas]
    have J1 := Lib.hid j1
    clear hcell j1
    generalize L.getD 0 [] = a0 at *
    go_wp2
    go_loop [3, 4] (fun s i => ∃ k : Nat, i = .int .i64 k ∧ 1 ≤ k ∧ k ≤ n ∧ s = .string ⟨(joinL (L.take k)).toArray⟩) (fun _ i => n - (intOf i).toNat)
    case atStart => exact ⟨1, rfl, Nat.le_refl _, hpos, by rw [J1.out]⟩
    case round =>
      obtain ⟨k, rfl, hk1, hk, rfl⟩ := hrel
      have hl1 := HLen.out k
      have HL1 : Hid ((joinL (L.take k)).length ≤ 4 + n * (30 + 1)) := hl1
      have hb1 : (joinL (L.take k)).length ≤ 314 := by omega
      clear hl1
      by_cases hlt : k < n
      · have ck : w.cell? ⟨b, o + k, none⟩ = some (.string ⟨(L.getD k []).toArray⟩) := HCell.out k (by rw [HN.out]; exact hlt)
        have hal : (L.getD k []).length ≤ 30 := (HC.out _ (getD_in (by rw [HN.out]; exact hlt))).2
        have hst := HStep.out k (by omega) hlt
        have HSt := Lib.hid hst
        clear hst
        generalize hA : L.getD k [] = a at *
        generalize hJ : joinL (L.take k) = J at *
        clear hA
        go_wp2
        go_round
        case rel =>
          refine ⟨k + 1, by go_num, by omega, by omega, ?_⟩
          rw [HSt.out]
          have e44 : ({ data := #[44] } : ByteArray) = ⟨([44] : List UInt8).toArray⟩ := rfl
          rw [e44, bytes_app, bytes_app]
          rfl
        case measure => simp [intOf]; omega
      · obtain rfl : k = n := by omega
        go_wp2
        go_ret
        rw [List.take_of_length_le (by rw [HN.out]; exact Nat.le_refl _)]
        exact ⟨rfl, rfl⟩

/-- A recurrence's text. -/
def recL3 (S C : List (List UInt8)) : List UInt8 := joinL S ++ [59] ++ joinL C

set_option maxRecDepth 100000 in
set_option maxHeartbeats 1000000 in
theorem recText_any (D : Nat) (ao bo : Option Addr) (ca cb : Nat) (S C : List (List UInt8)) (w : World) (h0 : w.cell? ⟨D, 0, none⟩ = some (.slice ao S.length ca)) (h1 : w.cell? ⟨D, 1, none⟩ = some (.slice bo C.length cb)) (hD : D < w.heap.size)
    (hs : TxtAt 0 w ao S) (ht : TxtAt 0 w bo C) (hl : S.length ≤ 10) (hl2 : C.length ≤ 10) (hc : ∀ a ∈ S, Cl 30 a) (hc2 : ∀ a ∈ C, Cl 30 a) :
    Calls Tryd.prog 53 #[.pointer (some ⟨D, 0, none⟩)] w fun e w' => e = .returned (.string ⟨(recL3 S C).toArray⟩) ∧ Below w.heap.size w w' := by
  have hj1 := (joinL_cl S hc).2
  have hj2 := (joinL_cl C hc2).2
  have HJ1 := fun n => Calls.quiet_of_same (join_any ao ca S (w.drewN n) (hs.drawn n) hl hc)
  have HJ2 := fun n => Calls.quiet_of_same (join_any bo cb C (w.drewN n) (ht.drawn n) hl2 hc2)
  have H1 := Lib.hid HJ1
  have H2 := Lib.hid HJ2
  have hb1 : (joinL S).length ≤ 400 := by omega
  have hb2 : (joinL C).length ≤ 400 := by omega
  have HR : Hid (recL3 S C = joinL S ++ [59] ++ joinL C) := rfl
  generalize recL3 S C = R at *
  clear HJ1 HJ2 hs ht hc hc2 hj1 hj2
  generalize joinL S = JS at *
  generalize joinL C = JC at *
  generalize S.length = n at *
  generalize C.length = m at *
  go_enter Tryd.func53, Tryd.ntmps53
  go_wp2
  go_quiet (first | (go_at_call_of 64 (Value.slice ao n ca); exact H1.out _) | (go_at_call_of 64 (Value.slice bo m cb); exact H2.out _))
  go_wp2
  go_ret
  refine ⟨ret_str ?_, below_drewN (Below.refl _ _) _⟩
  have e59 : ({ data := #[59] } : ByteArray) = ⟨([59] : List UInt8).toArray⟩ := rfl
  rw [HR.out, e59, bytes_app, bytes_app]

end Go.Proofs.YthmjcjoecelnmaaDoor
