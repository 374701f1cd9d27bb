/-
  'laws.FnExactJournalOf' returns true for every slice of texts, which reads behind the call as it read before. The row lists three tables of the library's; the card ties them to the program's text.
-/
import Derived.Test.YthmjcjoecelnmaaDoorJc
import Derived.Test.YthmjcjoecelnmaaDoorLaid
import Derived.SliceStrings
namespace Go.Proofs.YthmjcjoecelnmaaDoor.fnExactJournalOf
open Go.ChangeShapes Go.WideShapes Go.ChangeAt Go.RowKit
set_option linter.unusedVariables false

/-- What both return, written once. -/
theorem res_one {L : List (List UInt8)} {w w' : World} {e : Ending} (h : JRes L w e w') :
    ∃ (s : List UInt8) (b : Bool), e = .returned (.tuple #[.string ⟨s.toArray⟩, .bool b]) ∧ Hid ((JOk L ∧ s = jr 0 L ∧ b = true) ∨ (¬ JOk L ∧ s = [] ∧ b = false)) ∧ Below w.heap.size w w' := by
  obtain ⟨h, hb⟩ := h
  rcases h with ⟨h, rfl⟩ | ⟨h, rfl⟩
  · exact ⟨_, _, rfl, .inl ⟨h, rfl, rfl⟩, hb⟩
  · exact ⟨[], _, rfl, .inr ⟨h, rfl, rfl⟩, hb⟩

set_option maxHeartbeats 1000000 in
theorem walk (ao : Option Addr) (cap : Nat) (L : List (List UInt8)) (w : World) (ha : TxtAt 0 w ao L) (hl : L.length ≤ 9223372036854775807) (hs : ∀ a ∈ L, a.length ≤ 9223372036854775807) (ht : Tab w) :
    Calls Tryd.prog 5 #[.slice ao L.length cap] w fun e w' => e = .returned (.bool true) ∧ Below w.heap.size w w' := by
  have HT := Lib.hid ht
  have HA := Lib.hid ha
  have HS := Lib.hid hs
  clear ht ha hs
  go_enter Tryd.func5, Tryd.ntmps5
  go_wp2_with fail
  refine (size_any ao cap L _ HA.out hl HS.out).mono ?_
  rintro e w1 ⟨⟨r, rfl, hr⟩, hw1⟩
  subst hw1
  rcases hr with hr | ⟨hr, hsm⟩
  · go_wp2
    go_ret
    exact ⟨rfl, Below.refl _ _⟩
  have HSm := Lib.hid hsm
  clear hsm
  go_wp2_with fail
  refine (toS_any ao L cap _ HA.out (by have := HSm.out; omega)).mono ?_
  rintro e w2 ⟨a2, c2, rfl, ht2, hb2⟩
  have HA2 := Lib.hid ht2
  have HB2 := Lib.hid hb2
  have HT2 : Hid (Tab w2) := HT.out.keep hb2
  clear ht2 hb2
  go_wp2_with fail
  refine (specJournalOf_any a2 c2 L _ (HA2.out.low (Nat.zero_le _)) HSm.out).mono ?_
  rintro e w3 h
  obtain ⟨s3, b3, rfl, H3, hb3⟩ := res_one h
  have HB3 : Hid (Below w1.heap.size w1 w3) := HB2.out.trans (hb3.mono HB2.out.size)
  have hsz3 := HB3.out.size
  clear h hb3
  go_wp2_with fail
  refine (toS_any ao L cap _ (HA.out.keep HB3.out) (by have := HSm.out; omega)).mono ?_
  rintro e w4 ⟨a4, c4, rfl, ht4, hb4⟩
  have HA4 := Lib.hid ht4
  have HB4 : Hid (Below w1.heap.size w1 w4) := HB3.out.trans (hb4.mono hsz3)
  have hsz4 := HB4.out.size
  clear ht4 hb4
  go_wp2_with fail
  refine (implJournalOf_any a4 c4 L _ (HA4.out.low (Nat.zero_le _)) HSm.out (HT.out.keep HB4.out)).mono ?_
  rintro e w5 h
  obtain ⟨s5, b5, rfl, H5, hb5⟩ := res_one h
  have HA5 : Hid (TxtAt 0 w5 a4 L) := (HA4.out.keep hb5).low (Nat.zero_le _)
  have HB5 : Hid (Below w1.heap.size w1 w5) := HB4.out.trans (hb5.mono hsz4)
  have hsz5 := HB5.out.size
  clear h hb5
  obtain ⟨rfl, rfl⟩ : s5 = s3 ∧ b5 = b3 := by
    rcases H3.out with ⟨h, rfl, rfl⟩ | ⟨h, rfl, rfl⟩ <;> rcases H5.out with ⟨h', rfl, rfl⟩ | ⟨h', rfl, rfl⟩
    · exact ⟨rfl, rfl⟩
    · exact absurd h h'
    · exact absurd h' h
    · exact ⟨rfl, rfl⟩
  clear H3 H5
  go_wp2_with fail
  refine (toS_any ao L cap _ (HA.out.keep HB5.out) (by have := HSm.out; omega)).mono ?_
  rintro e w6 ⟨a6, c6, rfl, ht6, hb6⟩
  have HA6 := Lib.hid ht6
  have HA5b : Hid (TxtAt 0 w6 a4 L) := HA5.out.keep hb6
  have HB6 : Hid (Below w1.heap.size w1 w6) := HB5.out.trans (hb6.mono hsz5)
  have hsz6 := HB6.out.size
  clear ht6 hb6
  have hl4 : L.length ≤ 1048576 := by have := HSm.out; omega
  go_wp2_with fail
  refine (eqS_any a4 a6 _ _ L _ HA5b.out (HA6.out.low (Nat.zero_le _)) hl4).mono ?_
  rintro e w7 ⟨rfl, hb7⟩
  have HB7 : Hid (Below w1.heap.size w1 w7) := HB6.out.trans (hb7.mono hsz6)
  clear hb7
  go_wp2
  go_ret
  exact ⟨rfl, HB7.out⟩

theorem cells9 : Tryd.prog.cellsOf 9 = 1 := by kernel_rfl

/-- A slice of texts that came in, nil or not. -/
theorem view {H : Type} {enc : TypeId × Value → H} {W : World} {fuel : Nat} {v : Value} {d : DataW H} {p : List MemPlace}
    (hf : DataW.trod enc Tryd.prog W 0 (fun _ => true) true fuel 24 [v] = some (d, p)) :
    ∃ ao cap L, v = .slice ao L.length cap ∧ TxtAt 0 W ao L ∧ L.length ≤ 9223372036854775807 ∧ ∀ a ∈ L, a.length ≤ 9223372036854775807 := by
  rcases open_strings Tryd.underlying24 Tryd.underlying9 cells9 hf with ⟨hcs, hx⟩ | ⟨a, len, cap, ss, hcs, _, hl, hm, hz, hx, hcell, hsz⟩
  · simp only [List.cons.injEq, and_true] at hcs
    exact ⟨none, 0, [], hcs, fun h => absurd h (by simp), by simp, fun a h => by cases h⟩
  · simp only [List.cons.injEq, and_true] at hcs
    simp only [if_true] at hz
    have hlen : ((ss.take len).map fun s => s.data.toList).length = len := by simp; omega
    refine ⟨some a, cap, (ss.take len).map fun s => s.data.toList, by rw [hlen]; exact hcs, fun h0 => ?_, by rw [hlen]; unfold maxLen at hm; omega, fun x hx => ?_⟩
    · obtain ⟨b, o, s⟩ := a
      obtain rfl : s = none := by simpa [Addr.add] using World.cell?_spot (hcell 0 (by omega))
      have hblk : b < W.heap.size := by simpa [Addr.add] using World.block_lt_of_cell? W _ (hcell 0 (by omega))
      refine ⟨b, o, rfl, Nat.zero_le _, hblk, fun t ht => ?_⟩
      rw [hlen] at ht
      rw [← add_plain, hcell t (by omega)]
      simp [List.getD, ht, show t < ss.length by omega, sv]
    · obtain ⟨s, hs, rfl⟩ := List.mem_map.1 hx
      have := hsz s (List.mem_of_mem_take hs)
      simp [maxLen] at this ⊢
      omega

set_option maxRecDepth 100000 in
theorem contract (H : Type) (enc : TypeId × Value → H) (W : World) (base : Nat) (args : Array Value) (ds gs : List (DataW H)) (before : List MemPlace)
    (hval : ∀ (j : Nat) t v, Tryd.f5.params[j]? = some t → args[j]? = some v → Value.okWide Tryd.prog W .any base t v)
    (hW : DataW.Whole enc Tryd.prog Tryd.f5.params.toList Rows.fnExactJournalOfSpec.vars false W args.toList ds gs before) (hL : laidMetH Tryd.prog Rows.fnExactJournalOfRow.laid W) :
    Calls Tryd.prog 5 args W fun e W' => ∃ v, e = .returned v ∧ Rows.fnExactJournalOfSpec.post enc Tryd.prog Tryd.f5 false true false false W args v W' := by
  have hW' := hW
  obtain ⟨p, q, hA0, hV, rfl, hfz, hnd⟩ := hW
  have hA : DataW.TrodAll enc Tryd.prog W 0 (fun _ => true) true Tryd.f5.params.toList args.toList ds p := hA0
  rw [Tryd.params5] at hA hval
  obtain ⟨v0, d0, rfl, rfl, h0⟩ := trodAll_one hA
  obtain ⟨rfl, rfl⟩ := trodVars_none hV
  obtain ⟨a0, la, ca, rfl⟩ := okWide_slice Tryd.underlying24 (hval 0 24 v0 rfl rfl)
  have h0k := h0
  obtain ⟨fa, hfa⟩ := h0
  clear hA0
  simp only [List.append_nil] at hW'
  have hlt : ∀ x ∈ p, x.block < W.heap.size := fun x hx => by simpa using hW'.lt x hx
  obtain ⟨ao, cap, L, hv, hT, hl, hs⟩ := view hfa
  simp only [Value.slice.injEq] at hv
  obtain ⟨rfl, rfl, rfl⟩ := hv
  refine (walk a0 ca L W hT hl hs (table hL)).mono fun e W' ⟨he, hb⟩ => ?_
  subst he
  exact ⟨_, rfl, _, _, _, [], p, [], hW', trodAll_mk1 (shut_bool Tryd.underlying4 _), trodAll_mk1 (Below.trod laidOut (by kernel_rfl) (of_decide_eq_true (by kernel_rfl)) h0k hb hlt), rfl, hb.frame _, fun h => by cases h⟩

theorem laid_met (os : Os) : laidMet Tryd.prog Rows.fnExactJournalOfRow.laid ((laidWorld os).forCall (fun _ _ => 0) ⟨#[], #[.slice none 0 0], []⟩).memory :=
  laidMet_of_run' 65 (by kernel_rfl) (by kernel_rfl)
theorem reads (os : Os) {H : Type} (enc : TypeId × Value → H) : ∃ places, DataW.whole enc Tryd.prog ((laidWorld os).forCall (fun _ _ => 0) ⟨#[], #[.slice none 0 0], []⟩).memory Tryd.f5.params.toList Rows.fnExactJournalOfSpec.vars false #[Value.slice none 0 0].toList 8 = some ([.nil], [], places) :=
  ⟨[], by kernel_rfl⟩

set_option maxRecDepth 100000 in
theorem lifted (os : Os) (started : os.Started) (H : Type) (enc : TypeId × Value → H) (F : Stop.Interp) :
    ReturnsInHanded {} Tryd.checked os 5 .any ((OpenSpec.ofChange Rows.fnExactJournalOfSpec).preRow enc Tryd.prog Tryd.f5 Rows.fnExactJournalOfRow.domain false Rows.fnExactJournalOfRow.laid) (((OpenSpec.ofChange Rows.fnExactJournalOfSpec).at F).post enc Tryd.prog Tryd.f5 false true false false) := by
  obtain ⟨places, hx⟩ := reads os enc
  refine returnsInHanded_of_row (C := Tryd.checked) (s := OpenSpec.ofChange Rows.fnExactJournalOfSpec) own started (by kernel_rfl) Tryd.func5
    (witness_row_at (enc := enc) (C := Tryd.checked) false (laidWorld os) #[.slice none 0 0] rfl (by kernel_rfl) (by kernel_rfl) (by kernel_rfl)
      (OpenSpec.preRow_of_cond 8 hx (by kernel_rfl) (fun k hk => by cases hk) (by kernel_rfl) (laid_met os))) ?_
  intro W base args ds gs before hval hW _ _ _ hL _ _
  exact contract H enc W base args ds gs before hval hW hL

theorem said : Rows.FnExactJournalOfSaid :=
  OpenClaim.holds_of_cond 5 Tryd.f5 rfl rfl rfl rfl rfl rfl rfl ⟨rfl, rfl, rfl, rfl, rfl⟩ rfl rfl rfl rfl rfl (by kernel_rfl) Tryd.func5 (by kernel_rfl)
    (of_decide_eq_true (by kernel_rfl)) (by unfold Func.isWrapper; first | (rw [if_pos (by decide +kernel)]; kernel_rfl) | (rw [if_neg (by decide +kernel)]; exact ⟨rfl, rfl⟩))
    (fun os started H enc _ F => by rw [OpenClaim.pre_eq_preRow]; exact lifted os started H enc F)

theorem plain (f : FuncId) (fn : Func) (hf : Tryd.pinned.checked.prog.funcNamed Rows.fnExactJournalOfRow.func = some f) (hfn : Tryd.pinned.checked.prog.funcs[f]? = some fn) :
    false = Tryd.pinned.checked.prog.looks [] ∧ ∀ (j : Nat) t, fn.params[j]? = some t → Tryd.pinned.checked.prog.wantsStandIn t = false := by
  obtain rfl : f = 5 := Option.some.inj ((show Tryd.prog.funcNamed Rows.fnExactJournalOfRow.func = some 5 by kernel_rfl).symm.trans hf) |>.symm
  obtain rfl : fn = Tryd.f5 := (Option.some.inj (Tryd.func5.symm.trans hfn)).symm
  refine ⟨by kernel_rfl, fun j t ht => ?_⟩
  rw [Tryd.params5] at ht
  obtain rfl : t = 24 := by simpa using Array.mem_of_getElem? ht
  exact (show Tryd.prog.wantsStandIn 24 = false by kernel_rfl)

/-- THE CARD -/
theorem card : Rows.FnExactJournalOfCardSaid :=
  Claim7.holds_tied_plain_at .later [] _ _ _ _ said (fun _ h => by cases h) (by kernel_rfl) (fun _ h => by cases h) fnExactJournalOf_row_tie rfl ⟨rfl, rfl⟩ (by kernel_rfl) rfl plain (by kernel_rfl)
#print axioms card
end Go.Proofs.YthmjcjoecelnmaaDoor.fnExactJournalOf
