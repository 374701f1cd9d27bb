/-
  Small lemmas for the walks of this seat: slices in memory by what they hold, the library's table carried over new memory, endings. No condition beyond those typed.
-/
import Derived.Test.YthmjcjoecelnmaaDoorRows
import Derived.Test.YthmjcjoecelnmaaDoorShelf
import Derived.WalkKit
import Derived.WalkSpells
import Derived.WalkLawsBesides
import Derived.Lib.Hide
import Derived.Lib.AppendIntMem
import Derived.Deep.LoopGhost
import Derived.Deep.OwnRows
import Derived.Deep.QuietTactic
import Derived.BigQuiet
namespace Go.Proofs.YthmjcjoecelnmaaDoor
open Go.RowKit
set_option linter.unusedVariables false

theorem Tryd.info2 : (Tryd.prog.info? 2).map (fun i => (i.zero, i.size, i.bytes)) = some (some (.int .i64 0), 1, 8) := by kernel_rfl
theorem Tryd.info5 : (Tryd.prog.info? 5).map (fun i => (i.zero, i.size, i.bytes)) = some (some (.int .u8 0), 1, 1) := by kernel_rfl
theorem Tryd.info9 : (Tryd.prog.info? 9).map (fun i => (i.zero, i.size, i.bytes)) = some (some (.string ⟨#[]⟩), 1, 16) := by kernel_rfl
theorem gTab : Tryd.prog.globalNamed "internal/strconv.uint64pow10" = some 0 := by kernel_rfl

theorem ret_bool {a b : Bool} (h : a = b) : Ending.returned (.bool a) = .returned (.bool b) := by rw [h]
theorem ret_int {k : IntKind} {a b : Int} (h : a = b) : Ending.returned (.int k a) = .returned (.int k b) := by rw [h]
theorem ret_str {a b : ByteArray} (h : a = b) : Ending.returned (.string a) = .returned (.string b) := by rw [h]

theorem below_drewN {B : Nat} {a w : World} (h : Below B a w) (n : Nat) : Below B a (w.drewN n) := ⟨h.os, h.tape, h.output, h.size, h.block⟩

/-- The library's table of powers of ten holds them. -/
def Tab (w : World) : Prop := Lib.TabIs Tryd.prog w "internal/strconv.uint64pow10" .u64 Lib.pow10Tab
theorem Tab.keep {w w' : World} (h : Tab w) (hb : Below w.heap.size w w') : Tab w' := by
  unfold Tab Lib.TabIs at *
  have hlt : 0 < w.heap.size := by
    unfold World.var? at h
    rw [gTab] at h
    simp only [Option.bind_some] at h
    cases hh : w.heap[0]? with
    | none => rw [hh] at h; simp at h
    | some o => exact (Array.getElem?_eq_some_iff.1 hh).1
  exact var?_below hb gTab hlt h

/-- A slice at an address that holds these integers, in a block from lo on. -/
def RowAt (lo : Nat) (w : World) (ao : Option Addr) (zs : List Int) : Prop :=
  0 < zs.length → ∃ b o, ao = some ⟨b, o, none⟩ ∧ lo ≤ b ∧ b < w.heap.size ∧ ∀ t, t < zs.length → w.cell? ⟨b, o + t, none⟩ = some (.int .i64 (zs.getD t 0))

theorem RowAt.keep {lo : Nat} {w w' : World} {ao : Option Addr} {zs : List Int} (h : RowAt lo w ao zs) (hb : Below w.heap.size w w') : RowAt lo w' ao zs := by
  intro h0
  obtain ⟨b, o, e, l, hlt, hc⟩ := h h0
  exact ⟨b, o, e, l, Nat.lt_of_lt_of_le hlt hb.size, fun t ht => (hb.cell (p := ⟨b, o + t, none⟩) hlt).trans (hc t ht)⟩

theorem RowAt.low {lo lo' : Nat} {w : World} {ao : Option Addr} {zs : List Int} (h : RowAt lo w ao zs) (hl : lo' ≤ lo) : RowAt lo' w ao zs := by
  intro h0
  obtain ⟨b, o, e, l, hlt, hc⟩ := h h0
  exact ⟨b, o, e, Nat.le_trans hl l, hlt, hc⟩

theorem RowAt.set {lo : Nat} {w : World} {ao : Option Addr} {zs : List Int} (h : RowAt lo w ao zs) {a : Addr} (ha : a.block < lo) (v : Value) : RowAt lo (w.setCell a v) ao zs := by
  intro h0
  obtain ⟨b, o, e, l, hlt, hc⟩ := h h0
  refine ⟨b, o, e, l, by simpa [World.setCell] using hlt, fun t ht => ?_⟩
  rw [← hc t ht]
  exact World.cell?_of_block (w := w) (a := ⟨b, o + t, none⟩) (Below.heap_setCell w a v b (by omega))

/-- The first m numbers of a row. -/
theorem RowAt.take {lo : Nat} {w : World} {ao : Option Addr} {zs : List Int} (h : RowAt lo w ao zs) (m : Nat) : RowAt lo w ao (zs.take m) := by
  intro h0
  simp only [List.length_take] at h0
  obtain ⟨b, o, e, l, hlt, hc⟩ := h (by omega)
  refine ⟨b, o, e, l, hlt, fun t ht => ?_⟩
  simp only [List.length_take] at ht
  rw [hc t (by omega)]
  simp [List.getD, show t < m by omega]

/-- A slice of digits, in a block from lo on: what a value '.slice ao ds.length cap' stands for. -/
structure DAt (lo : Nat) (w : World) (ao : Option Addr) (cap : Nat) (ds : List Int) : Prop where
  row : RowAt lo w ao ds
  nil : ao = none → cap = 0
  len : ds.length ≤ cap
  cap : cap ≤ 9223372036854775807

theorem DAt.keep {lo : Nat} {w w' : World} {ao : Option Addr} {cap : Nat} {ds : List Int} (h : DAt lo w ao cap ds) (hb : Below w.heap.size w w') : DAt lo w' ao cap ds :=
  ⟨h.row.keep hb, h.nil, h.len, h.cap⟩
theorem DAt.low {lo lo' : Nat} {w : World} {ao : Option Addr} {cap : Nat} {ds : List Int} (h : DAt lo w ao cap ds) (hl : lo' ≤ lo) : DAt lo' w ao cap ds :=
  ⟨h.row.low hl, h.nil, h.len, h.cap⟩
theorem DAt.set {lo : Nat} {w : World} {ao : Option Addr} {cap : Nat} {ds : List Int} (h : DAt lo w ao cap ds) {a : Addr} (ha : a.block < lo) (v : Value) : DAt lo (w.setCell a v) ao cap ds :=
  ⟨h.row.set ha v, h.nil, h.len, h.cap⟩

/-- What a block that was laid at the heap's end holds later. -/
theorem own1 {w w1 : World} {c : Array Value} {t : TypeId} (hb : Below (w.heap.size + 1) (w.alloc (.cells c t)) w1) (i : Nat) :
    w1.cell? ⟨w.heap.size, i, none⟩ = c[i]? ∧ w1.frozen? ⟨w.heap.size, i, none⟩ = false ∧ w.heap.size < w1.heap.size := by
  have hs := hb.size
  simp at hs
  refine ⟨?_, ?_, by omega⟩
  · rw [hb.cell (p := ⟨w.heap.size, i, none⟩) (Nat.lt_succ_self _)]; simp [go_sem]
  · rw [hb.frozen (p := ⟨w.heap.size, i, none⟩) (Nat.lt_succ_self _)]; simp [go_sem]

end Go.Proofs.YthmjcjoecelnmaaDoor
