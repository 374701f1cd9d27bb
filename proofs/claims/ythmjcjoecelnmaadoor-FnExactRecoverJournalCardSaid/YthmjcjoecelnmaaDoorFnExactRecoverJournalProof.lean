/-
  'laws.FnExactRecoverJournal' returns true for every text, and the memory that it finds stays as it was. The row lists three tables of the library's; the card ties them to the program's text.
-/
import Derived.Test.YthmjcjoecelnmaaDoorRg
import Derived.Test.YthmjcjoecelnmaaDoorLaid
import Derived.ChangeMaps5
namespace Go.Proofs.YthmjcjoecelnmaaDoor.fnExactRecoverJournal
open Go.ChangeShapes Go.WideShapes Go.ChangeAt Go.RowKit
open Go.ChangeMaps (open_string shut_string)
set_option linter.unusedVariables false

/-- What both return, written once. -/
def recL (l : List UInt8) : List (List UInt8) := if 4000 < l.length then [] else texts l
def recN (l : List UInt8) : Nat := if 4000 < l.length then 0 else taken l
def recB (l : List UInt8) : Bool := if 4000 < l.length then false else true

theorem rcv_length (ls : List (List UInt8)) : ∀ n, (rcv n ls).length ≤ ls.length := by
  induction ls with
  | nil => intro n; simp [rcv]
  | cons a r ih =>
    intro n
    simp only [rcv]
    split
    · simp
    · split
      · have := ih (chk n (by assumption : List UInt8 × List UInt8).2)
        simp; omega
      · simp

theorem recL_length (l : List UInt8) : (recL l).length ≤ 4000 := by
  unfold recL
  split
  · simp
  · have h1 := rcv_length (lns [] l) 0
    have h2 := lns_length l []
    unfold texts
    omega

theorem rec_one {l : List UInt8} {w w' : World} {e : Ending} (h : RecRes l w e w') :
    ∃ v, e = .returned (.tuple #[v, .int .i64 (recN l), .bool (recB l)]) ∧ w'.ownsRow w.heap.size 9 1 v (recL l).length ((recL l).map sv) ∧ Below w.heap.size w w' := by
  rcases h with ⟨h, rfl, hb⟩ | ⟨h, v, rfl, ho, hb⟩
  · refine ⟨.slice none 0 0, by simp [recN, recB, h], ?_, hb⟩
    simp only [recL, if_pos h]
    exact ⟨rfl, .inl ⟨rfl, rfl⟩⟩
  · refine ⟨v, by simp [recN, recB, show ¬ 4000 < l.length by omega], ?_, hb⟩
    simp only [recL, if_neg (show ¬ 4000 < l.length by omega)]
    exact ho

set_option maxHeartbeats 1000000 in
theorem walk (l : List UInt8) (w : World) (hm : l.length ≤ maxLen) (ht : Tab w) :
    Calls Tryd.prog 4 #[.string ⟨l.toArray⟩] w fun e w' => e = .returned (.bool true) ∧ Below w.heap.size w w' := by
  have HT := Lib.hid ht
  unfold maxLen at hm
  clear ht
  go_enter Tryd.func4, Tryd.ntmps4
  by_cases hbig : 1048576 < l.length
  · go_wp2
    go_ret
    exact ⟨rfl, Below.refl _ _⟩
  go_wp2_with fail
  refine (specRec_any l _).mono ?_
  rintro e w1 h
  obtain ⟨v1, rfl, ho1, hb1⟩ := rec_one h
  have HO1 := Lib.hid ho1
  have HB1 := Lib.hid hb1
  have HT1 : Hid (Tab w1) := HT.out.keep hb1
  clear h ho1 hb1
  go_wp2_with fail
  refine (implRec_any l _ HT1.out).mono ?_
  rintro e w2 h
  obtain ⟨v2, rfl, ho2, hb2⟩ := rec_one h
  have HO2 := Lib.hid ho2
  have HB2 := Lib.hid hb2
  have hl := recL_length l
  clear h ho2 hb2
  generalize hL : recL l = L at *
  have HL := Lib.hid hL
  clear hL
  obtain ⟨a1, c1, rfl, ht1, -, -, -⟩ := txt_view HO1.out
  obtain ⟨a2, c2, hv2, ht2, -, -, -⟩ := txt_view HO2.out
  have HT1t : Hid (TxtAt w.heap.size w1 a1 L) := ht1
  have HT2t : Hid (TxtAt w1.heap.size w2 a2 L) := ht2
  subst hv2
  clear ht1 ht2
  have s1 := HB1.out.size
  have s2 := HB2.out.size
  go_wp2_with fail
  refine (eqS_any a2 a1 _ _ L _ (HT2t.out.low (Nat.zero_le _)) ((HT1t.out.keep HB2.out).low (Nat.zero_le _)) (by omega)).mono ?_
  rintro e w3 ⟨rfl, hb3⟩
  have HO3 : Hid (w3.ownsRow w1.heap.size 9 1 (.slice a2 L.length c2) L.length (L.map sv)) := own_keep HO2.out hb3
  have HB3 : Hid (Below w1.heap.size w1 w3) := HB2.out.trans (hb3.mono s2)
  have s3 := HB3.out.size
  clear hb3 HO2 HB2
  go_wp2_with fail
  refine (marks_any w1.heap.size _ L 1 _ HO3.out s3 (by omega) (by omega) hl).mono ?_
  rintro e w4 ⟨rfl, ho4, hb4⟩
  have HO4 := Lib.hid ho4
  have HB4 : Hid (Below w1.heap.size w1 w4) := HB3.out.trans hb4
  have s4 := HB4.out.size
  have hv4 := txt_view (ls := marks 1 L.length) (by rw [marks_length]; exact ho4)
  rw [marks_length] at hv4
  obtain ⟨a4, c4, hva, ht4, -, -, -⟩ := hv4
  simp only [Value.slice.injEq, true_and] at hva
  obtain ⟨rfl, rfl⟩ := hva
  have HT4 := Lib.hid ht4
  clear ho4 hb4 ht4 HO3 HO1
  go_wp2_with fail
  refine (held_any a2 _ L.length 1 _ (HT4.out.low (Nat.zero_le _)) (by omega) (by omega) hl).mono ?_
  rintro e w5 ⟨rfl, hb5⟩
  have HT5 : Hid (TxtAt w1.heap.size w5 a2 (marks 1 L.length)) := HT4.out.keep hb5
  have HB5 : Hid (Below w1.heap.size w1 w5) := HB4.out.trans (hb5.mono s4)
  have s5 := HB5.out.size
  clear hb5 HT4 HO4
  go_wp2_with fail
  refine (implRec_any l _ (HT1.out.keep HB5.out)).mono ?_
  rintro e w6 h
  obtain ⟨v6, rfl, ho6, hb6⟩ := rec_one h
  rw [HL.out] at ho6
  obtain ⟨a6, c6, rfl, ht6, -, -, -⟩ := txt_view ho6
  have HT6 : Hid (TxtAt 0 w6 a6 L) := ht6.low (Nat.zero_le _)
  have HT6b : Hid (TxtAt w1.heap.size w6 a2 (marks 1 L.length)) := HT5.out.keep hb6
  have HB6 : Hid (Below w1.heap.size w1 w6) := HB5.out.trans (hb6.mono s5)
  have s6 := HB6.out.size
  clear h ho6 ht6 hb6 HT5
  go_wp2_with fail
  refine (eqS_any a6 a1 _ _ L _ HT6.out ((HT1t.out.keep HB6.out).low (Nat.zero_le _)) (by omega)).mono ?_
  rintro e w7 ⟨rfl, hb7⟩
  have HT7 : Hid (TxtAt w1.heap.size w7 a2 (marks 1 L.length)) := HT6b.out.keep hb7
  have HB7 : Hid (Below w1.heap.size w1 w7) := HB6.out.trans (hb7.mono s6)
  have s7 := HB7.out.size
  clear hb7 HT6 HT6b
  go_wp2_with fail
  refine (held_any a2 _ L.length 1 _ (HT7.out.low (Nat.zero_le _)) (by omega) (by omega) hl).mono ?_
  rintro e w8 ⟨rfl, hb8⟩
  have HB8 : Hid (Below w1.heap.size w1 w8) := HB7.out.trans (hb8.mono s7)
  have HF : Hid (Below w.heap.size w w8) := HB1.out.trans (HB8.out.mono s1)
  clear hb8
  go_wp2
  go_ret
  exact ⟨rfl, HF.out⟩

theorem bytes_self (s : ByteArray) : s = ⟨s.data.toList.toArray⟩ := by
  simp

set_option maxRecDepth 100000 in
theorem contract (H : Type) (enc : TypeId × Value → H) (W : World) (base : Nat) (args : Array Value) (ds gs : List (DataW H)) (before : List MemPlace)
    (hval : ∀ (j : Nat) t v, Tryd.f4.params[j]? = some t → args[j]? = some v → Value.okWide Tryd.prog W .any base t v)
    (hW : DataW.Whole enc Tryd.prog Tryd.f4.params.toList Rows.fnExactRecoverJournalSpec.vars false W args.toList ds gs before) (hL : laidMetH Tryd.prog Rows.fnExactRecoverJournalRow.laid W) :
    Calls Tryd.prog 4 args W fun e W' => ∃ v, e = .returned v ∧ Rows.fnExactRecoverJournalSpec.post enc Tryd.prog Tryd.f4 false true false false W args v W' := by
  have hW' := hW
  obtain ⟨p, q, hA0, hV, rfl, hfz, hnd⟩ := hW
  have hA : DataW.TrodAll enc Tryd.prog W 0 (fun _ => true) true Tryd.f4.params.toList args.toList ds p := hA0
  rw [Tryd.params4] at hA hval
  obtain ⟨v0, d0, rfl, rfl, h0⟩ := trodAll_one hA
  obtain ⟨rfl, rfl⟩ := trodVars_none hV
  obtain ⟨s, rfl, rfl, rfl, hs⟩ := open_string Tryd.underlying9 (hval 0 9 v0 rfl rfl) h0
  clear hA0
  simp only [List.append_nil] at hW'
  have hw := walk s.data.toList W (by simpa using hs) (table hL)
  rw [← bytes_self] at hw
  refine hw.mono fun e W' ⟨he, hb⟩ => ?_
  subst he
  exact ⟨_, rfl, _, _, _, [], [], [], hW', trodAll_mk1 (shut_bool Tryd.underlying4 _), trodAll_mk1 (shut_string Tryd.underlying9 hs), rfl, hb.frame _, fun h => by cases h⟩

theorem laid_met (os : Os) : laidMet Tryd.prog Rows.fnExactRecoverJournalRow.laid ((laidWorld os).forCall (fun _ _ => 0) ⟨#[], #[.string ⟨#[]⟩], []⟩).memory :=
  laidMet_of_run' 65 (by kernel_rfl) (by kernel_rfl)
theorem reads (os : Os) {H : Type} (enc : TypeId × Value → H) : ∃ places, DataW.whole enc Tryd.prog ((laidWorld os).forCall (fun _ _ => 0) ⟨#[], #[.string ⟨#[]⟩], []⟩).memory Tryd.f4.params.toList Rows.fnExactRecoverJournalSpec.vars false #[Value.string ⟨#[]⟩].toList 8 = some ([.lit (.string [])], [], places) :=
  ⟨[], by kernel_rfl⟩

set_option maxRecDepth 100000 in
theorem lifted (os : Os) (started : os.Started) (H : Type) (enc : TypeId × Value → H) (F : Stop.Interp) :
    ReturnsInHanded {} Tryd.checked os 4 .any ((OpenSpec.ofChange Rows.fnExactRecoverJournalSpec).preRow enc Tryd.prog Tryd.f4 Rows.fnExactRecoverJournalRow.domain false Rows.fnExactRecoverJournalRow.laid) (((OpenSpec.ofChange Rows.fnExactRecoverJournalSpec).at F).post enc Tryd.prog Tryd.f4 false true false false) := by
  obtain ⟨places, hx⟩ := reads os enc
  refine returnsInHanded_of_row (C := Tryd.checked) (s := OpenSpec.ofChange Rows.fnExactRecoverJournalSpec) own started (by kernel_rfl) Tryd.func4
    (witness_row_at (enc := enc) (C := Tryd.checked) false (laidWorld os) #[.string ⟨#[]⟩] rfl (by kernel_rfl) (by kernel_rfl) (by kernel_rfl)
      (OpenSpec.preRow_of_cond 8 hx (by kernel_rfl) (fun k hk => by cases hk) (by kernel_rfl) (laid_met os))) ?_
  intro W base args ds gs before hval hW _ _ _ hL _ _
  exact contract H enc W base args ds gs before hval hW hL

theorem said : Rows.FnExactRecoverJournalSaid :=
  OpenClaim.holds_of_cond 4 Tryd.f4 rfl rfl rfl rfl rfl rfl rfl ⟨rfl, rfl, rfl, rfl, rfl⟩ rfl rfl rfl rfl rfl (by kernel_rfl) Tryd.func4 (by kernel_rfl)
    (of_decide_eq_true (by kernel_rfl)) (by unfold Func.isWrapper; first | (rw [if_pos (by decide +kernel)]; kernel_rfl) | (rw [if_neg (by decide +kernel)]; exact ⟨rfl, rfl⟩))
    (fun os started H enc _ F => by rw [OpenClaim.pre_eq_preRow]; exact lifted os started H enc F)

theorem plain (f : FuncId) (fn : Func) (hf : Tryd.pinned.checked.prog.funcNamed Rows.fnExactRecoverJournalRow.func = some f) (hfn : Tryd.pinned.checked.prog.funcs[f]? = some fn) :
    false = Tryd.pinned.checked.prog.looks [] ∧ ∀ (j : Nat) t, fn.params[j]? = some t → Tryd.pinned.checked.prog.wantsStandIn t = false := by
  obtain rfl : f = 4 := Option.some.inj ((show Tryd.prog.funcNamed Rows.fnExactRecoverJournalRow.func = some 4 by kernel_rfl).symm.trans hf) |>.symm
  obtain rfl : fn = Tryd.f4 := (Option.some.inj (Tryd.func4.symm.trans hfn)).symm
  refine ⟨by kernel_rfl, fun j t ht => ?_⟩
  rw [Tryd.params4] at ht
  obtain rfl : t = 9 := by simpa using Array.mem_of_getElem? ht
  exact (show Tryd.prog.wantsStandIn 9 = false by kernel_rfl)

/-- THE CARD -/
theorem card : Rows.FnExactRecoverJournalCardSaid :=
  Claim7.holds_tied_plain_at .later [] _ _ _ _ said (fun _ h => by cases h) (by kernel_rfl) (fun _ h => by cases h) fnExactRecoverJournal_row_tie rfl ⟨rfl, rfl⟩ (by kernel_rfl) rfl plain (by kernel_rfl)
#print axioms card
end Go.Proofs.YthmjcjoecelnmaaDoor.fnExactRecoverJournal
