/-
  'laws.FnExactValidCounter' returns true for every counter, which reads behind the call as it read before. No condition.
-/
import Derived.Test.YtgjajkcpdjmibaaValI
import Derived.ProofKit
import Derived.OpenShut
import Derived.Lib.SmallJoins
import Derived.Deep.Slices
namespace Go.Proofs.Ytgjajkcpdjmibaa.fnExactValidCounter
open Go.ChangeShapes Go.WideShapes Go.ChangeAt Go.RowKit Go.Deep
set_option linter.unusedVariables false

theorem own : ownKnob Try.prog.godebug = none := by kernel_rfl
theorem laidOut : laidOutB Try.prog = true := by kernel_rfl
theorem cells2 : Try.prog.cellsOf 2 = 1 := by kernel_rfl
theorem cells33 : Try.prog.cellsOf 33 = 1 := by kernel_rfl
theorem cells35 : Try.prog.cellsOf 35 = 2 := by kernel_rfl

/-- The number that a datum is. -/
def dnum {H : Type} : DataW H → Int | .lit (.int _ n) => n | _ => 0
/-- The numbers that a datum holds. -/
def dnums {H : Type} : DataW H → List Int | .slice es _ => es.map dnum | _ => []

theorem dnum_lits {H : Type} (zs : List Int) : (lits (H := H) .i64 zs).map dnum = zs := by
  induction zs with
  | nil => rfl
  | cons z zs ih => simpa [lits, dnum] using ih

/-- A slice of integers that came in, nil or not. -/
theorem view1 {H : Type} {enc : TypeId × Value → H} {W : World} {fuel : Nat} {v : Value} {d : DataW H} {p : List MemPlace}
    (hf : DataW.trod enc Try.prog W 0 (fun _ => true) true fuel 33 [v] = some (d, p)) :
    ∃ ao cap, v = .slice ao (dnums d).length cap ∧ RowAt 0 W ao (dnums d) ∧ (dnums d).length ≤ 9223372036854775807 := by
  rcases open_ints Try.underlying33 Try.underlying2 cells2 hf with ⟨hcs, hx⟩ | ⟨a, len, cap, zs, hcs, _, hl, hm, hz, hx, hcell, hwz⟩
  · simp only [List.cons.injEq, and_true] at hcs
    simp only [Prod.mk.injEq] at hx
    obtain ⟨rfl, rfl⟩ := hx
    exact ⟨none, 0, hcs, fun h => absurd h (by simp [dnums]), by simp [dnums]⟩
  · simp only [List.cons.injEq, and_true] at hcs
    simp only [Prod.mk.injEq] at hx
    obtain ⟨rfl, rfl⟩ := hx
    simp only [if_true] at hz
    have hd : dnums (H := H) (.slice (lits .i64 (zs.take len)) (lits .i64 (zs.drop len))) = zs.take len := dnum_lits _
    have hlen : (zs.take len).length = len := by simp; omega
    rw [hd]
    refine ⟨some a, cap, by rw [hlen]; exact hcs, fun h0 => ?_, by unfold maxLen at hm; omega⟩
    obtain ⟨b, o, s⟩ := a
    obtain rfl : s = none := by simpa [Addr.add] using World.cell?_spot (hcell 0 (by omega))
    have hblk : b < W.heap.size := by simpa [Addr.add] using World.block_lt_of_cell? W _ (hcell 0 (by omega))
    refine ⟨b, o, rfl, Nat.zero_le _, hblk, fun t ht => ?_⟩
    rw [← add_plain, hcell t (by omega)]
    simp [List.getD, show t < len by omega]

/-- The rows that a datum holds. -/
def drows {H : Type} : DataW H → List (List Int) | .slice es _ => es.map dnums | _ => []

/-- A slice of such slices that came in, nil or not. -/
theorem view2 {H : Type} {enc : TypeId × Value → H} {W : World} {fuel : Nat} {v : Value} {d : DataW H} {p : List MemPlace}
    (hf : DataW.trod enc Try.prog W 0 (fun _ => true) true fuel 32 [v] = some (d, p)) :
    ∃ ao cap, v = .slice ao (drows d).length cap ∧ RowsAt 0 W ao (drows d) ∧ (drows d).length ≤ 9223372036854775807 ∧ ∀ t, t < (drows d).length → ((drows d).getD t []).length ≤ 9223372036854775807 := by
  rcases open_slice Try.underlying32 hf with ⟨hcs, hx⟩ | ⟨a, len, cap, m, n, D, Pl, hcs, _, hl, hm, hmm, hx, hi⟩
  · simp only [List.cons.injEq, and_true] at hcs
    simp only [Prod.mk.injEq] at hx
    obtain ⟨rfl, rfl⟩ := hx
    exact ⟨none, 0, hcs, fun h => absurd h (by simp [drows]), by simp [drows], fun t ht => absurd ht (by simp [drows])⟩
  · simp only [List.cons.injEq, and_true] at hcs
    simp only [Prod.mk.injEq] at hx
    obtain ⟨rfl, rfl⟩ := hx
    simp only [if_true] at hmm
    subst hmm
    have hd : drows (H := H) (.slice ((List.range len).map D) ((List.range (m - len)).map fun j => D (len + j))) = (List.range len).map (fun i => dnums (D i)) := by
      simp [drows]
    have each : ∀ i, i < len → ∃ ra rc, W.cell? (a.add i) = some (.slice ra (dnums (D i)).length rc) ∧ RowAt 0 W ra (dnums (D i)) ∧ (dnums (D i)).length ≤ 9223372036854775807 := by
      intro i hil
      obtain ⟨cs', hc, ht⟩ := hi i (by omega)
      rw [cells33, Nat.mul_one] at hc
      obtain ⟨_, hcl, hat⟩ := World.cells?_some hc
      match cs', hcl with
      | [c], _ =>
        have h0 := hat 0 (by omega)
        obtain ⟨ra, rc, rfl, h1, h2⟩ := view1 ht
        exact ⟨ra, rc, by simpa [Addr.add] using h0, h1, h2⟩
    have hget : ∀ t, t < len → ((List.range len).map (fun i => dnums (D i))).getD t [] = dnums (D t) := fun t ht => by simp [List.getD, ht]
    rw [hd]
    have hlen : ((List.range len).map (fun i => dnums (D i))).length = len := by simp
    refine ⟨some a, m, by rw [hlen]; exact hcs, fun h0 => ?_, by rw [hlen]; unfold maxLen at hm; omega, fun t ht => ?_⟩
    · rw [hlen] at h0
      obtain ⟨b, o, s⟩ := a
      obtain ⟨ra0, rc0, hc0, -⟩ := each 0 h0
      obtain rfl : s = none := by simpa [Addr.add] using World.cell?_spot hc0
      have hblk : b < W.heap.size := by simpa [Addr.add] using World.block_lt_of_cell? W _ hc0
      refine ⟨b, o, rfl, Nat.zero_le _, hblk, fun t ht => ?_⟩
      rw [hlen] at ht
      obtain ⟨ra, rc, h1, h2, -⟩ := each t ht
      rw [hget t ht]
      exact ⟨ra, rc, by rw [← add_plain]; exact h1, h2⟩
    · rw [hlen] at ht
      obtain ⟨_, _, _, _, h3⟩ := each t ht
      rw [hget t ht]
      exact h3

set_option maxRecDepth 100000 in
theorem lifted (os : Os) (started : os.Started) (H : Type) (enc : TypeId × Value → H) :
    ReturnsInHanded {} Try.checked os 7 .any (Rows.fnExactValidCounterSpec.pre6 enc Try.prog Try.f7 Rows.fnExactValidCounterRow.domain false) (Rows.fnExactValidCounterSpec.post enc Try.prog Try.f7 false true false false) := by
  refine returnsInHanded_of_change (C := Try.checked) own started (by kernel_rfl) Try.func7
    (ChangeSpec.witness6 (enc := enc) (C := Try.checked) false ⟨#[], #[.agg #[.slice none 0 0, .slice none 0 0]], []⟩ 8 (by kernel_rfl) (by kernel_rfl) (by kernel_rfl) (by kernel_rfl)) ?_
  intro W base args ds gs before hval0 hW hcnd _
  have hval : ∀ (j : Nat) t v, Try.f7.params[j]? = some t → args[j]? = some v → Value.okWide Try.prog W .any base t v := hval0
  have hW' := hW
  obtain ⟨p, q, hA0, hV, rfl, hfz, hnd⟩ := hW
  have hA : DataW.TrodAll enc Try.prog W 0 (fun _ => true) true Try.f7.params.toList args.toList ds p := hA0
  rw [Try.params7] at hA hval
  obtain ⟨v0, d0, rfl, rfl, h0⟩ := trodAll_one hA
  obtain ⟨rfl, rfl⟩ := trodVars_none hV
  have h0k := h0
  obtain ⟨c0, c1, y0, y1, m, rfl, hd0, hp, hy0, hy1⟩ := Joins.open_agg2 Try.underlying35 (by kernel_rfl) cells35 (hval 0 35 v0 rfl rfl) h0
  clear hA0 hval0
  simp only [List.append_nil] at hW'
  have hlt : ∀ x ∈ p, x.block < W.heap.size := fun x hx => by simpa using hW'.lt x hx
  obtain ⟨na, nc, rfl, hN, hl, hl1⟩ := view2 hy0
  obtain ⟨aa, ac, rfl, hAA, hl2⟩ := view1 hy1
  refine (valid_walk na aa nc ac _ _ W hN hAA hl hl1 hl2).mono fun e W' ⟨he, hb⟩ => ?_
  subst he
  exact ⟨_, rfl, _, _, _, [], p, [], hW', trodAll_mk1 (shut_bool Try.underlying4 _), trodAll_mk1 (Below.trod laidOut (by kernel_rfl) (of_decide_eq_true (by kernel_rfl)) h0k hb hlt), rfl, hb.frame _, fun h => by cases h⟩

theorem over : Rows.fnExactValidCounterRow.holds Try.pinned (OpenSpec.ofChange Rows.fnExactValidCounterSpec) :=
  OpenClaim.holds_of_wide 7 Try.f7 rfl rfl rfl rfl rfl rfl rfl ⟨rfl, rfl, rfl, rfl, rfl⟩ rfl rfl rfl rfl rfl (by kernel_rfl) Try.func7 (by kernel_rfl)
    (of_decide_eq_true (by kernel_rfl)) (by unfold Func.isWrapper; first | (rw [if_pos (by decide +kernel)]; kernel_rfl) | (rw [if_neg (by decide +kernel)]; exact ⟨rfl, rfl⟩))
    (fun os started H enc _ => lifted os started H enc)

/-- THE STATEMENT -/
theorem proved : Rows.FnExactValidCounterSaid :=
  over
#print axioms proved
end Go.Proofs.Ytgjajkcpdjmibaa.fnExactValidCounter
