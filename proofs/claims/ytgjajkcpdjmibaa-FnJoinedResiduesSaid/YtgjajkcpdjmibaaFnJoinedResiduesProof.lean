/-
  'laws.FnJoinedResidues' returns true for every two slices of bytes, each of which reads behind the call as it read before. No condition.
-/
import Derived.Test.YtgjajkcpdjmibaaJoinc
import Derived.ProofKit
import Derived.OpenShut
namespace Go.Proofs.Ytgjajkcpdjmibaa.fnJoinedResidues
open Go.ChangeShapes Go.WideShapes Go.ChangeAt Go.RowKit
set_option linter.unusedVariables false

theorem own : ownKnob Try.prog.godebug = none := by kernel_rfl
theorem laidOut : laidOutB Try.prog = true := by kernel_rfl
theorem cells5 : Try.prog.cellsOf 5 = 1 := by kernel_rfl

/-- Below the old size nothing has turned. -/
theorem grown_block {W W' : World} (h : Grown W W') {b : Nat} (hb : b < W.heap.size) : W'.heap[b]? = W.heap[b]? := by
  have h1 := h.1.2.2 b hb
  generalize W.heap[b]? = o at *
  generalize W'.heap[b]? = o' at *
  split at h1
  · obtain ⟨rfl, rfl, hs, hc⟩ := h1
    congr 2
    apply Array.ext hs
    intro i i1 i2
    have := hc i (fun f => f)
    simpa [i1, i2] using this
  · rcases h1 with h1 | ⟨rfl, rfl⟩
    · exact h1.elim
    · rfl
  · exact h1

theorem grown_same {W W' : World} (h : Grown W W') {p : MemPlace} (hp : p.block < W.heap.size) : W.sameAt W' p := by
  cases p with
  | cell b o => exact World.cell?_of_block (w := W) (grown_block h hp)
  | map b => exact grown_block h hp

theorem grown_trod {H : Type} {enc : TypeId × Value → H} {P : Program} {t : TypeId} (hl : laidOutB P = true) (hr : P.readableRec t = true) (hrow : t < P.types.size) {W W' : World} {v : Value} {d : DataW H} {ps : List MemPlace}
    (h : DataW.Trod enc P W 0 (fun _ => true) true t v d ps) (hb : Grown W W') (hlt : ∀ x ∈ ps, x.block < W.heap.size) :
    DataW.Trod enc P W' 0 (fun b => decide (b < W.heap.size)) true t v d ps :=
  WideElems.Trod_stays hl hr hrow h (fun x hx => grown_same hb (hlt x hx)) (fun x hx => by simpa using hlt x hx)

/-- A slice of bytes that came in, nil or not. -/
theorem view {H : Type} {enc : TypeId × Value → H} {W : World} {fuel : Nat} {a0 : Option Addr} {len cap : Nat} {x : DataW H × List MemPlace}
    (hf : DataW.trod enc Try.prog W 0 (fun _ => true) true fuel 23 (Value.slice a0 len cap).cells.toList = some x) :
    (∀ b o s, a0 = some ⟨b, o, s⟩ → 0 < len → s = none) ∧ BV W a0 len ∧ len ≤ 9223372036854775807 := by
  rcases open_ints Try.underlying23 Try.underlying5 cells5 hf with ⟨hcs, hx⟩ | ⟨a, len', cap', zs, hcs, _, hl, hm, hz, hx, hcell, hwz⟩
  · simp [Value.cells] at hcs
    obtain ⟨rfl, rfl, rfl⟩ := hcs
    exact ⟨(fun b o s h => by cases h), ⟨fun _ => rfl, fun b o h => by cases h⟩, by omega⟩
  · simp [Value.cells] at hcs
    obtain ⟨rfl, rfl, rfl⟩ := hcs
    simp only [if_true] at hz
    have hs : ∀ b o s, some a = some ⟨b, o, s⟩ → 0 < len → s = none := by
      intro b o s h hl0
      obtain rfl := Option.some.inj h
      simpa [Addr.add] using World.cell?_spot (hcell 0 (by omega))
    refine ⟨hs, ⟨(fun h => by cases h), fun b o h t ht => ?_⟩, by unfold maxLen at hm; omega⟩
    obtain rfl := Option.some.inj h
    have hc := hcell t (by omega)
    have hw := bounds_u8 (hwz (zs.getD t 0) (by
      rw [List.getD_eq_getElem?_getD, List.getElem?_eq_getElem (by omega)]
      exact List.getElem_mem _))
    exact ⟨zs.getD t 0, hw.1, hw.2, by rw [← hc, add_plain]⟩

set_option maxRecDepth 100000 in
theorem lifted (os : Os) (started : os.Started) (H : Type) (enc : TypeId × Value → H) :
    ReturnsInHanded {} Try.checked os 4 .any (Rows.fnJoinedResiduesSpec.pre6 enc Try.prog Try.f4 Rows.fnJoinedResiduesRow.domain false) (Rows.fnJoinedResiduesSpec.post enc Try.prog Try.f4 false true false false) := by
  refine returnsInHanded_of_change (C := Try.checked) own started (by kernel_rfl) Try.func4
    (ChangeSpec.witness6 (enc := enc) (C := Try.checked) false ⟨#[], #[.slice none 0 0, .slice none 0 0], []⟩ 8 (by kernel_rfl) (by kernel_rfl) (by kernel_rfl) (by kernel_rfl)) ?_
  intro W base args ds gs before hval0 hW hcnd _
  have hval : ∀ (j : Nat) t v, Try.f4.params[j]? = some t → args[j]? = some v → Value.okWide Try.prog W .any base t v := hval0
  have hW' := hW
  obtain ⟨p, q, hA0, hV, rfl, hfz, hnd⟩ := hW
  have hA : DataW.TrodAll enc Try.prog W 0 (fun _ => true) true Try.f4.params.toList args.toList ds p := hA0
  rw [Try.params4] at hA hval
  obtain ⟨v0, v1, d0, d1, p0, p1, rfl, rfl, rfl, h0, h1⟩ := trodAll_two hA
  obtain ⟨rfl, rfl⟩ := trodVars_none hV
  obtain ⟨a0, la, ca, rfl⟩ := okWide_slice Try.underlying23 (hval 0 23 v0 rfl rfl)
  obtain ⟨b0, lb, cb, rfl⟩ := okWide_slice Try.underlying23 (hval 1 23 v1 rfl rfl)
  have h0k := h0
  have h1k := h1
  obtain ⟨fa, hfa⟩ := h0
  obtain ⟨fb, hfb⟩ := h1
  clear hA0 hval0
  simp only [List.append_nil] at hW'
  have hlt : ∀ x ∈ p0 ++ p1, x.block < W.heap.size := fun x hx => by simpa using hW'.lt x hx
  obtain ⟨sA, vA, lA⟩ := view hfa
  obtain ⟨sB, vB, lB⟩ := view hfb
  refine (joined_walk a0 b0 la ca lb cb W sA vA sB vB lA lB).mono fun e W' ⟨he, hg⟩ => ?_
  subst he
  exact ⟨_, rfl, _, _, _, [], _, [], hW', trodAll_mk1 (shut_bool Try.underlying4 _), trodAll_mk2 (grown_trod laidOut (by kernel_rfl) (of_decide_eq_true (by kernel_rfl)) h0k hg (fun x hx => hlt x (by simp [hx]))) (grown_trod laidOut (by kernel_rfl) (of_decide_eq_true (by kernel_rfl)) h1k hg (fun x hx => hlt x (by simp [hx]))), rfl, hg.frame _, fun h => by cases h⟩

theorem over : Rows.fnJoinedResiduesRow.holds Try.pinned (OpenSpec.ofChange Rows.fnJoinedResiduesSpec) :=
  OpenClaim.holds_of_wide 4 Try.f4 rfl rfl rfl rfl rfl rfl rfl ⟨rfl, rfl, rfl, rfl, rfl⟩ rfl rfl rfl rfl rfl (by kernel_rfl) Try.func4 (by kernel_rfl)
    (of_decide_eq_true (by kernel_rfl)) (by unfold Func.isWrapper; first | (rw [if_pos (by decide +kernel)]; kernel_rfl) | (rw [if_neg (by decide +kernel)]; exact ⟨rfl, rfl⟩))
    (fun os started H enc _ => lifted os started H enc)

/-- THE STATEMENT -/
theorem proved : Rows.FnJoinedResiduesSaid :=
  over
#print axioms proved
end Go.Proofs.Ytgjajkcpdjmibaa.fnJoinedResidues
