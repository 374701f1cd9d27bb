/-
  A journal's text, plain; the reference's text of a journal and its JournalOf by their contracts. Condition: at most 1048576 texts and bytes.
-/
import Derived.Test.YthmjcjoecelnmaaDoorJa
namespace Go.Proofs.YthmjcjoecelnmaaDoor
open Go.RowKit
set_option linter.unusedVariables false

/-- One line of a journal. -/
def jl (m : Int) (a : List UInt8) : List UInt8 := Lib.itoa m ++ [32] ++ a ++ [10]
/-- A journal's text. -/
def jr (n : Int) : List (List UInt8) → List UInt8
  | [] => []
  | a :: r => jl (chk n a) a ++ jr (chk n a) r
/-- The check number after these texts. -/
def chks (n : Int) (L : List (List UInt8)) : Int := L.foldl chk n

theorem chks_range (L : List (List UInt8)) : ∀ n : Int, 0 ≤ n → n < 9973 → 0 ≤ chks n L ∧ chks n L < 9973 := by
  induction L with
  | nil => intro n h0 h1; exact ⟨h0, h1⟩
  | cons a r ih => intro n h0 h1; exact ih _ (chk_range a n h0 h1).1 (chk_range a n h0 h1).2

theorem chks_step (L : List (List UInt8)) (k : Nat) (h : k < L.length) (n : Int) : chks n (L.take (k + 1)) = chk (chks n (L.take k)) (L.getD k []) := by
  rw [List.take_succ_eq_append_getElem h, List.getD_eq_getElem?_getD, List.getElem?_eq_getElem h]
  unfold chks
  rw [List.foldl_append]
  rfl

theorem jr_append (A B : List (List UInt8)) : ∀ n, jr n (A ++ B) = jr n A ++ jr (chks n A) B := by
  induction A with
  | nil => intro n; rfl
  | cons a r ih =>
    intro n
    simp only [List.cons_append, jr]
    rw [ih]
    simp only [List.append_assoc]
    rfl

theorem jr_step (L : List (List UInt8)) (k : Nat) (h : k < L.length) (n : Int) : jr n (L.take (k + 1)) = jr n (L.take k) ++ jl (chk (chks n (L.take k)) (L.getD k [])) (L.getD k []) := by
  rw [List.take_succ_eq_append_getElem h, jr_append, List.getD_eq_getElem?_getD, List.getElem?_eq_getElem h]
  simp [jr]

theorem itoa_pos (x : Int) : 0 < (Lib.itoa x).length := by
  unfold Lib.itoa
  split
  · simp
  · have := dec_ne x.toNat
    exact List.length_pos_iff.2 this

theorem jl_length (m : Int) (a : List UInt8) : (jl m a).length = (Lib.itoa m).length + a.length + 2 := by
  simp [jl]; omega

theorem jr_bounds (L : List (List UInt8)) : ∀ n : Int, 0 ≤ n → n < 9973 → lsum L + 3 * L.length ≤ (jr n L).length ∧ (jr n L).length ≤ lsum L + 32 * L.length := by
  induction L with
  | nil => intro n h0 h1; simp [jr, lsum]
  | cons a r ih =>
    intro n h0 h1
    obtain ⟨c0, c1⟩ := chk_range a n h0 h1
    have h2 := ih (chk n a) c0 c1
    have h3 := itoa_length (chk n a) (by omega) (by omega)
    have h4 := itoa_pos (chk n a)
    simp only [jr, lsum, List.length_append, jl_length, List.length_cons]
    omega

theorem jr_prefix (L : List (List UInt8)) (k : Nat) : (jr 0 (L.take k)).length ≤ (jr 0 L).length := by
  conv => rhs; rw [← List.take_append_drop k L, jr_append]
  simp

theorem lsum_prefix (L : List (List UInt8)) : ∀ k, lsum (L.take k) ≤ lsum L := by
  induction L with
  | nil => intro k; simp [lsum]
  | cons a r ih =>
    intro k
    cases k with
    | zero => simp [lsum]
    | succ k => have := ih k; simp [lsum]; omega

set_option maxHeartbeats 1000000 in
theorem journal_any (ao : Option Addr) (cap : Nat) (L : List (List UInt8)) (w : World) (ha : TxtAt 0 w ao L) (hl : L.length ≤ 4000) (hs : lsum L ≤ 4000) :
    Calls Tryd.prog 32 #[.slice ao L.length cap] w fun e w' => e = .returned (.string ⟨(jr 0 L).toArray⟩) ∧ Below w.heap.size w w' := by
  generalize hn : L.length = n at *
  have Hn := Lib.hid hn
  have HA := Lib.hid ha
  clear hn ha
  go_enter Tryd.func32, Tryd.ntmps32
  go_wp2
  go_loopw [3, 4, 5] (fun s c i wr => ∃ k : Nat, s = .string ⟨(jr 0 (L.take k)).toArray⟩ ∧ c = .int .i64 (chks 0 (L.take k)) ∧ i = .int .i64 k ∧ k ≤ n ∧ Below w.heap.size w wr) (fun _ _ i _ => n - (intOf i).toNat)
  case atStart => exact ⟨0, rfl, rfl, rfl, Nat.zero_le _, Below.refl _ _⟩
  case round =>
    obtain ⟨k, rfl, rfl, rfl, hk, hb⟩ := hrel
    have HB := Lib.hid hb
    have hsz := hb.size
    obtain ⟨d0, d1⟩ := chks_range (L.take k) 0 (by omega) (by omega)
    have hj := (jr_bounds (L.take k) 0 (by omega) (by omega)).2
    have hls := lsum_prefix L k
    have hjl : (jr 0 (L.take k)).length ≤ 140000 := by
      have : (L.take k).length ≤ 4000 := by rw [List.length_take]; omega
      omega
    clear hb hj hls
    by_cases hlt : k < n
    · obtain ⟨b, o, rfl, -, hbl, hc⟩ := HA.out (by rw [Hn.out]; omega)
      have hbl2 : b < wr.heap.size := Nat.lt_of_lt_of_le hbl hsz
      have c0 := (HB.out.cell (p := ⟨b, o + k, none⟩) hbl).trans (hc k (by rw [Hn.out]; exact hlt))
      have HC := Lib.hid (chks_step L k (by rw [Hn.out]; exact hlt) 0)
      have HJ := Lib.hid (jr_step L k (by rw [Hn.out]; exact hlt) 0)
      have hal : (L.getD k []).length ≤ 4000 := by
        have h1 := lsum_take L k (by rw [Hn.out]; exact hlt)
        have h2 := lsum_prefix L (k + 1)
        omega
      clear hc
      generalize ha : L.getD k [] = a at *
      generalize hM : chks 0 (L.take k) = M at *
      generalize hR : jr 0 (L.take k) = R at *
      have Ha := Lib.hid ha
      have HM := Lib.hid hM
      have HR := Lib.hid hR
      clear ha hM hR
      unfold sv at c0
      go_wp2_with fail
      refine (specCheck_any M ⟨a.toArray⟩ _ d0 d1 (by simpa [ByteArray.size] using hal)).mono ?_
      rintro e w2 ⟨rfl, hw2⟩
      subst hw2
      obtain ⟨e0, e1⟩ := chk_range a M d0 d1
      have hit := itoa_length (chk M a) (by omega) (by omega)
      generalize hN : chk M a = N at *
      have HN := Lib.hid hN
      clear hN
      go_wp2
      go_region_with (first | (go_at_call 24; refine (int_any N _ (by omega) (by omega)).mono ?_; rintro e w3 ⟨v3, rfl, hq3, hb30⟩; have hb3 : Below w2.heap.size w2 w3 := ((Below.refl _ w2).drew).trans hb30; have c1 := (hb3.cell (p := ⟨b, o + k, none⟩) hbl2).trans c0; have HQ3 : Hid (QVal 0 (decide (N < 0)) N.natAbs 1 w3 v3) := qval_low hq3 (Nat.zero_le _); have HB3 := Lib.hid hb3; clear hq3 hb30 hb3) | (go_at_call 23; refine (textInt_any N _ _ HQ3.out (by omega) (by omega)).mono ?_; rintro e w4 ⟨rfl, hb4⟩; have c2 := (hb4.cell (p := ⟨b, o + k, none⟩) (Nat.lt_of_lt_of_le hbl2 HB3.out.size)).trans c1; have HB4 : Hid (Below w.heap.size w w4) := HB.out.trans ((HB3.out.trans (hb4.mono HB3.out.size)).mono hsz); clear hb4))
      all_goals
        go_wp2
        go_roundw
        case rel =>
          refine ⟨k + 1, congrArg Value.string (bytes_eq _ _ ?_), by rw [HC.out], by go_num, by omega, HB4.out⟩
          rw [HJ.out]
          simp [jl, ByteArray.data_append]
        case measure => simp [intOf] <;> omega
    · obtain rfl : k = n := by omega
      have HE : Hid (jr 0 (L.take k) = jr 0 L) := by
        show jr 0 (L.take k) = jr 0 L
        rw [List.take_of_length_le (by rw [Hn.out]; exact Nat.le_refl _)]
      go_wp2
      go_ret
      exact ⟨ret_str (by rw [HE.out]), HB.out⟩

/-- Whether a journal can be written. -/
def JOk (L : List (List UInt8)) : Prop := (∀ a ∈ L, (10 : UInt8) ∉ a) ∧ (jr 0 L).length ≤ 4000
/-- What JournalOf returns. -/
def JRes (L : List (List UInt8)) (w : World) (e : Ending) (w' : World) : Prop :=
  ((JOk L ∧ e = .returned (.tuple #[.string ⟨(jr 0 L).toArray⟩, .bool true])) ∨ (¬ JOk L ∧ e = .returned (.tuple #[.string ⟨#[]⟩, .bool false]))) ∧ Below w.heap.size w w'

theorem getD_mem {L : List (List UInt8)} {k : Nat} (h : k < L.length) : L.getD k [] ∈ L := by
  rw [List.getD_eq_getElem?_getD, List.getElem?_eq_getElem h]
  exact List.getElem_mem _

theorem take_clean10 {a : List UInt8} {k : Nat} (h : 10 ∉ a.take k) (hk : k < a.length) (hne : a.getD k 0 ≠ 10) : 10 ∉ a.take (k + 1) := by
  rw [List.take_succ_eq_append_getElem hk]
  rw [List.getD_eq_getElem?_getD, List.getElem?_eq_getElem hk] at hne
  simp only [Option.getD_some] at hne
  intro hm
  rcases List.mem_append.1 hm with h1 | h1
  · exact h h1
  · simp at h1; exact hne h1.symm

theorem byte_is {l : List UInt8} {k : Nat} (hk : k < l.length) (c : UInt8) (b : Bool) (h : (((⟨l.toArray⟩ : ByteArray)[k].toNat : Int) == (c.toNat : Int)) = b) : (l.getD k 0 == c) = b := by
  rw [List.getD_eq_getElem?_getD, List.getElem?_eq_getElem hk]
  simp only [Option.getD_some]
  have e2 : (⟨l.toArray⟩ : ByteArray)[k] = l[k] := rfl
  rw [e2] at h
  rw [← h]
  cases hb : (l[k] == c)
  · symm
    rw [beq_eq_false_iff_ne]
    have h1 : l[k] ≠ c := by simpa using hb
    intro e
    exact h1 (UInt8.toNat_inj.1 (by omega))
  · have : l[k] = c := by simpa using hb
    rw [this]; simp

set_option maxRecDepth 100000 in
set_option maxHeartbeats 1000000 in
theorem specJournalOf_any (ao : Option Addr) (cap : Nat) (L : List (List UInt8)) (w : World) (ha : TxtAt 0 w ao L) (hs : L.length + lsum L ≤ 1048576) :
    Calls Tryd.prog 15 #[.slice ao L.length cap] w (JRes L w) := by
  have hsn : L.length ≤ 1048576 := by omega
  have HS := Lib.hid hs
  generalize hn : L.length = n at *
  have Hn := Lib.hid hn
  have HA := Lib.hid ha
  clear hn ha hs
  go_enter Tryd.func15, Tryd.ntmps15
  go_wp2
  go_loop [4, 5] (fun s i => ∃ k T : Nat, s = .int .i64 T ∧ i = .int .i64 k ∧ k ≤ n ∧ T = lsum (L.take k) + 3 * k ∧ T ≤ 4000 ∧ ∀ j, j < k → (10 : UInt8) ∉ L.getD j []) (fun _ i => n - (intOf i).toNat)
  case atStart => exact ⟨0, 0, rfl, rfl, Nat.zero_le _, rfl, by omega, fun j h => by omega⟩
  case round =>
    obtain ⟨k, T, rfl, rfl, hk, hT, hT4, hcl⟩ := hrel
    have HT := Lib.hid hT
    have HCl := Lib.hid hcl
    clear hT hcl
    by_cases hlt : k < n
    · obtain ⟨b, o, rfl, -, hbl, hc⟩ := HA.out (by rw [Hn.out]; omega)
      have c0 := hc k (by rw [Hn.out]; exact hlt)
      have HSt := Lib.hid (lsum_take L k (by rw [Hn.out]; exact hlt))
      have hal : (L.getD k []).length ≤ 1048576 := by
        have h1 := HSt.out
        have h2 := lsum_prefix L (k + 1)
        have h3 := HS.out
        omega
      have HMem := Lib.hid (getD_mem (L := L) (k := k) (by rw [Hn.out]; exact hlt))
      clear hc
      generalize ha : L.getD k [] = a at *
      have Ha := Lib.hid ha
      clear ha
      unfold sv at c0
      go_wp2
      go_loop [6] (fun c => ∃ j : Nat, c = .int .i64 j ∧ j ≤ a.length ∧ 10 ∉ a.take j) (fun c => a.length - (intOf c).toNat)
      case atStart => exact ⟨0, rfl, Nat.zero_le _, by simp⟩
      case round =>
        obtain ⟨j, rfl, hj, hcl2⟩ := hrel
        have HCl2 := Lib.hid hcl2
        clear hcl2
        by_cases hja : j < a.length
        · go_wp2_with fail
          case roundEnd =>
            have hbt : (((⟨a.toArray⟩ : ByteArray)[j].toNat : Int) == 10) = false := by assumption
            have hne : a.getD j 0 ≠ 10 := by simpa using byte_is hja 10 false hbt
            go_round
            case rel => exact ⟨j + 1, by go_num, by omega, take_clean10 HCl2.out hja hne⟩
            case measure => simp [intOf] <;> omega
          have hbt : (((⟨a.toArray⟩ : ByteArray)[j].toNat : Int) == 10) = true := by assumption
          have he : a.getD j 0 = 10 := by simpa using byte_is hja 10 true hbt
          have hnot : ¬ JOk L := fun h => h.1 a HMem.out (by
            rw [← he, List.getD_eq_getElem?_getD, List.getElem?_eq_getElem hja]
            exact List.getElem_mem _)
          exact bodyPost_ret (v := .tuple #[.string ⟨#[]⟩, .bool false]) (by simp [results, Tryd.results15, go_sem]) rfl ⟨.inr ⟨hnot, rfl⟩, Below.refl _ _⟩
        · obtain rfl : j = a.length := by omega
          have hno : (10 : UInt8) ∉ a := by
            have := HCl2.out
            rw [List.take_of_length_le (Nat.le_refl _)] at this
            exact this
          by_cases hbig : 4000 < T + a.length + 3
          · have hnot : ¬ JOk L := fun h => by
              have h1 := (jr_bounds (L.take (k + 1)) 0 (by omega) (by omega)).1
              have h2 := jr_prefix L (k + 1)
              have h3 := HSt.out
              have h4 := HT.out
              have h5 := h.2
              have h6 : (L.take (k + 1)).length = k + 1 := by rw [List.length_take, Hn.out]; omega
              omega
            have HNot := Lib.hid hnot
            clear hnot
            go_wp2
            exact bodyPost_ret (v := .tuple #[.string ⟨#[]⟩, .bool false]) (by simp [results, Tryd.results15, go_sem]) rfl ⟨.inr ⟨HNot.out, rfl⟩, Below.refl _ _⟩
          · have HNo := Lib.hid hno
            clear hno
            go_wp2
            go_round
            case rel =>
              refine ⟨k + 1, T + (a.length + 3), by go_num, by go_num, by omega, ?_, by omega, fun i hi => ?_⟩
              · have := HSt.out; have := HT.out; omega
              · by_cases e : i = k
                · rw [e, Ha.out]; exact HNo.out
                · exact HCl.out i (by omega)
            case measure => simp [intOf] <;> omega
    · obtain rfl : k = n := by omega
      have hall : ∀ a ∈ L, (10 : UInt8) ∉ a := fun a hm => by
        obtain ⟨i, hi, he⟩ := List.mem_iff_getElem.1 hm
        have := HCl.out i (by rw [← Hn.out]; exact hi)
        rw [List.getD_eq_getElem?_getD, List.getElem?_eq_getElem hi] at this
        simp only [Option.getD_some, he] at this
        exact this
      have HAll := Lib.hid hall
      have hls : lsum L ≤ 4000 := by
        have h1 := HT.out
        rw [List.take_of_length_le (by rw [Hn.out]; exact Nat.le_refl _)] at h1
        omega
      have hk4 : L.length ≤ 4000 := by have := HT.out; rw [Hn.out]; omega
      have HJB := Lib.hid (jr_bounds L 0 (by omega) (by omega)).2
      have hjb : (jr 0 L).length ≤ 140000 := by have := HJB.out; omega
      clear hall
      go_wp2_with fail
      rw [← Hn.out]
      refine (journal_any ao cap L _ HA.out hk4 hls).mono ?_
      rintro e w2 ⟨rfl, hb2⟩
      have HB2 := Lib.hid hb2
      clear hb2
      by_cases hbig : 4000 < (jr 0 L).length
      · have HNot : Hid (¬ JOk L) := fun h => by have := h.2; omega
        go_wp2
        exact bodyPost_ret (v := .tuple #[.string ⟨#[]⟩, .bool false]) (by simp [results, Tryd.results15, go_sem]) rfl ⟨.inr ⟨HNot.out, rfl⟩, HB2.out⟩
      · have HOk : Hid (JOk L) := ⟨HAll.out, by omega⟩
        go_wp2
        exact bodyPost_ret (v := .tuple #[.string ⟨(jr 0 L).toArray⟩, .bool true]) (by simp [results, Tryd.results15, go_sem]) rfl ⟨.inl ⟨HOk.out, rfl⟩, HB2.out⟩

end Go.Proofs.YthmjcjoecelnmaaDoor
