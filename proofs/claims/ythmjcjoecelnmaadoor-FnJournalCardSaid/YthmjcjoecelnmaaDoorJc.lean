/-
  The program's JournalOf by its contract. Conditions: at most 1048576 texts and bytes; the library's table of powers of ten.
-/
import Derived.Test.YthmjcjoecelnmaaDoorJb
namespace Go.Proofs.YthmjcjoecelnmaaDoor
open Go.RowKit
set_option linter.unusedVariables false

theorem builder_at {T e : TypeId} {B b : Nat} {p : Value} {bs : List Value} {W W' : World} (h : Lib.BuilderAtF T e B b p bs W) (hb : Below W.heap.size W W') : Lib.BuilderAtF T e B b p bs W' := by
  have hlt := h.lt
  obtain ⟨hB, v, hv, hown, hne⟩ := h
  exact ⟨hB, v, (hb.block b hlt).trans hv, hown.kept (row := none) ⟨hb.os, hb.tape, hb.output, hb.size, fun k hk _ => hb.block k hk⟩ (Classical.em _), hne⟩
theorem builder_keep {T e : TypeId} {B b : Nat} {bs : List Value} {W W' : World} (h : Lib.IsBuilderF T e B b bs W) (hb : Below W.heap.size W W') : Lib.IsBuilderF T e B b bs W' :=
  h.elim (fun x => .inl (builder_at x hb)) (fun x => .inr (builder_at x hb))

theorem bytes_more (R : List UInt8) (s : ByteArray) : Lib.byteCells R ++ Lib.strCells s = Lib.byteCells (R ++ s.data.toList) := by
  rw [Lib.strCells_eq]; simp [Lib.byteCells]

set_option maxRecDepth 100000 in
set_option maxHeartbeats 1000000 in
theorem implJournalOf_any (ao : Option Addr) (cap : Nat) (L : List (List UInt8)) (w : World) (ha : TxtAt 0 w ao L) (hs : L.length + lsum L ≤ 1048576) (ht : Tab w) :
    Calls Tryd.prog 17 #[.slice ao L.length cap] w (JRes L w) := by
  have hsn : L.length ≤ 1048576 := by omega
  have HS := Lib.hid hs
  have HT := Lib.hid ht
  have hj0 := (jr_bounds L 0 (by omega) (by omega)).2
  generalize hn : L.length = n at *
  have Hn := Lib.hid hn
  have HA := Lib.hid ha
  have HJ0 := Lib.hid hj0
  clear hn ha hs ht hj0
  have hfresh := Lib.IsBuilderF.of (Lib.fresh_isBuilder 60 5 w)
  have HF := Lib.hid hfresh
  clear hfresh
  go_enter Tryd.func17, Tryd.ntmps17
  go_wp2
  go_loopw [5, 12] (fun c i wr => ∃ k : Nat, c = .int .i64 (chks 0 (L.take k)) ∧ i = .int .i64 k ∧ k ≤ n ∧ (∀ j, j < k → (10 : UInt8) ∉ L.getD j []) ∧ Lib.IsBuilderF 60 5 w.heap.size w.heap.size (Lib.byteCells (jr 0 (L.take k))) wr ∧ Below w.heap.size w wr) (fun _ i _ => n - (intOf i).toNat)
  case atStart => exact ⟨0, rfl, rfl, Nat.zero_le _, fun j h => by omega, HF.out, (Below.refl _ _).alloc (Nat.le_refl _) _⟩
  case round =>
    obtain ⟨k, rfl, rfl, hk, hcl, hbu, hb⟩ := hrel
    have HCl := Lib.hid hcl
    have HBu := Lib.hid hbu
    have HB := Lib.hid hb
    have hsz := hb.size
    obtain ⟨d0, d1⟩ := chks_range (L.take k) 0 (by omega) (by omega)
    have hjl : (jr 0 (L.take k)).length ≤ 40000000 := by
      have h1 := jr_prefix L k
      have h2 := HJ0.out
      have h3 := HS.out
      omega
    clear hb hcl hbu
    by_cases hlt : k < n
    · obtain ⟨b, o, rfl, -, hbl, hc⟩ := HA.out (by rw [Hn.out]; omega)
      have c0 := (HB.out.cell (p := ⟨b, o + k, none⟩) hbl).trans (hc k (by rw [Hn.out]; exact hlt))
      have HC := Lib.hid (chks_step L k (by rw [Hn.out]; exact hlt) 0)
      have HJ := Lib.hid (jr_step L k (by rw [Hn.out]; exact hlt) 0)
      have HMem := Lib.hid (getD_mem (L := L) (k := k) (by rw [Hn.out]; exact hlt))
      have HP := Lib.hid (jr_prefix L (k + 1))
      have hal : (L.getD k []).length ≤ 1048576 := by
        have h1 := lsum_take L k (by rw [Hn.out]; exact hlt)
        have h2 := lsum_prefix L (k + 1)
        have h3 := HS.out
        omega
      clear hc
      generalize ha : L.getD k [] = a at *
      generalize hM : chks 0 (L.take k) = M at *
      generalize hR : jr 0 (L.take k) = R at *
      have Ha := Lib.hid ha
      have HM := Lib.hid hM
      have HR := Lib.hid hR
      clear ha hM hR
      unfold sv at c0
      go_wp2_with fail
      refine (Tryd.strings_Contains_one ⟨a.toArray⟩ 10 _).mono ?_
      rintro e w2 ⟨rfl, hw2⟩
      subst hw2
      rw [show (⟨a.toArray⟩ : ByteArray).data.toList = a by rfl]
      rcases index_cases a 10 with ⟨h10, hi⟩ | ⟨x, y, hxy, h10, hi⟩
      · rw [hi]
        have H10 := Lib.hid h10
        clear h10 hi
        go_wp2_with fail
        refine (Tryd.Builder_Len_f w.heap.size w.heap.size (Lib.byteCells R) _ HBu.out).mono ?_
        rintro e w3 ⟨rfl, hw3⟩
        subst hw3
        rw [Lib.byteCells_length]
        by_cases hbig : 4000 < R.length + a.length
        · have hnot : ¬ JOk L := fun h => by
            have h1 := HP.out
            have h2 := h.2
            rw [HJ.out, List.length_append, jl_length] at h1
            omega
          have HNot := Lib.hid hnot
          clear hnot
          go_wp2
          exact bodyPost_ret (v := .tuple #[.string ⟨#[]⟩, .bool false]) (by simp [results, Tryd.results17, go_sem]) rfl ⟨.inr ⟨HNot.out, rfl⟩, HB.out⟩
        · go_wp2_with fail
          refine (implCheck_any M ⟨a.toArray⟩ _ d0 d1 (by have : (⟨a.toArray⟩ : ByteArray).size = a.length := by simp [ByteArray.size]
                                                          omega)).mono ?_
          rintro e w4 ⟨rfl, hw4⟩
          subst hw4
          obtain ⟨e0, e1⟩ := chk_range a M d0 d1
          have hit := itoa_length (chk M a) (by omega) (by omega)
          generalize hN : chk M a = N at *
          have HN := Lib.hid hN
          clear hN
          go_wp2_with fail
          refine (Tryd.strconv_Itoa N (by omega) (by omega) _ (HT.out.keep HB.out)).mono ?_
          rintro e w5 ⟨rfl, q, os, hw5⟩
          have hb5 : Below w4.heap.size w4 w5 := by rw [hw5]; exact Lib.below_grow _ _ (Nat.le_refl _) _ _
          have HBu5 : Hid (Lib.IsBuilderF 60 5 w.heap.size w.heap.size (Lib.byteCells R) w5) := builder_keep HBu.out hb5
          have HB5 : Hid (Below w.heap.size w w5) := HB.out.trans (hb5.mono hsz)
          have hsz5 := HB5.out.size
          clear hw5 hb5 HBu HB
          go_wp2_with fail
          refine (Tryd.Builder_WriteString_f w.heap.size w.heap.size (Lib.byteCells R) _ _ HBu5.out ?_ hsz5).mono ?_
          · rw [Lib.byteCells_length]
            simp only [ByteArray.size_append]
            simp [ByteArray.size]
            omega
          rintro e w6 ⟨rfl, hbu, hb6⟩
          rw [bytes_more] at hbu
          have hbb : Lib.IsBuilderF 60 5 w.heap.size w.heap.size (Lib.byteCells (jr 0 (L.take (k + 1)))) w6 := by
            rw [HJ.out]
            refine .inr ?_
            have e1 : ((⟨(Lib.itoa N).toArray⟩ ++ ⟨#[32]⟩ ++ ⟨a.toArray⟩ ++ ⟨#[10]⟩ : ByteArray)).data.toList = jl N a := by
              simp [jl, ByteArray.data_append]
            rw [e1] at hbu
            exact hbu
          have HBu6 := Lib.hid hbb
          have HB6 : Hid (Below w.heap.size w w6) := HB5.out.trans hb6
          clear hbu hb6 hbb
          go_wp2
          go_roundw
          case rel =>
            refine ⟨k + 1, by rw [HC.out], by go_num, by omega, fun j hj => ?_, HBu6.out, HB6.out⟩
            by_cases e : j = k
            · rw [e, Ha.out]; exact H10.out
            · exact HCl.out j (by omega)
          case measure => simp [intOf] <;> omega
      · have hnot : ¬ JOk L := fun h => h.1 a HMem.out (by rw [hxy]; simp)
        have HNot := Lib.hid hnot
        rw [hi]
        clear hnot hi hxy
        have hx : (0 : Int) ≤ (x.length : Int) := by omega
        go_wp2
        exact bodyPost_ret (v := .tuple #[.string ⟨#[]⟩, .bool false]) (by simp [results, Tryd.results17, go_sem]) rfl ⟨.inr ⟨HNot.out, rfl⟩, HB.out⟩
    · obtain rfl : k = n := by omega
      have hall : ∀ a ∈ L, (10 : UInt8) ∉ a := fun a hm => by
        obtain ⟨i, hi, he⟩ := List.mem_iff_getElem.1 hm
        have := HCl.out i (by rw [← Hn.out]; exact hi)
        rw [List.getD_eq_getElem?_getD, List.getElem?_eq_getElem hi] at this
        simp only [Option.getD_some, he] at this
        exact this
      have HAll := Lib.hid hall
      have hR : jr 0 (L.take k) = jr 0 L := by rw [List.take_of_length_le (by rw [Hn.out]; exact Nat.le_refl _)]
      rw [hR] at HBu hjl
      clear hall hR
      go_wp2_with fail
      refine (Tryd.Builder_Len_f w.heap.size w.heap.size (Lib.byteCells (jr 0 L)) _ HBu.out).mono ?_
      rintro e w3 ⟨rfl, hw3⟩
      subst hw3
      rw [Lib.byteCells_length]
      by_cases hbig : 4000 < (jr 0 L).length
      · have HNot : Hid (¬ JOk L) := fun h => by have := h.2; omega
        go_wp2
        exact bodyPost_ret (v := .tuple #[.string ⟨#[]⟩, .bool false]) (by simp [results, Tryd.results17, go_sem]) rfl ⟨.inr ⟨HNot.out, rfl⟩, HB.out⟩
      · have HOk : Hid (JOk L) := ⟨HAll.out, by omega⟩
        go_wp2_with fail
        refine (Tryd.Builder_String_any_f w.heap.size w.heap.size (jr 0 L) _ HBu.out hsz).mono ?_
        rintro e w4 ⟨rfl, -, hb4⟩
        have HB4 : Hid (Below w.heap.size w w4) := HB.out.trans hb4
        clear hb4
        go_wp2
        exact bodyPost_ret (v := .tuple #[.string ⟨(jr 0 L).toArray⟩, .bool true]) (by simp [results, Tryd.results17, go_sem]) rfl ⟨.inl ⟨HOk.out, rfl⟩, HB4.out⟩

end Go.Proofs.YthmjcjoecelnmaaDoor
