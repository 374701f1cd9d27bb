/-
  The source of choices by its contracts: next, pick, one, text: some number in its bounds; the source's own block alone is written.
-/
import Derived.Test.YthmjcjoecelnmaaDoorRows
import Derived.WalkKit
import Derived.WalkSpells
import Derived.WalkLawsBesides
import Derived.Lib.Hide
import Derived.Deep.LoopGhost
import Derived.Deep.OwnRows
import Derived.Deep.QuietTactic
import Derived.BigQuiet
import Derived.Deep.RegionWith
import Derived.Deep.CutRange
import Derived.Laws.BitsAllLaws
namespace Go.Proofs.YthmjcjoecelnmaaDoor
open Go.RowKit
set_option linter.unusedVariables false

/-- All blocks but one are as they were. -/
structure Beside (p : Nat) (w w' : World) : Prop where
  os : w'.os = w.os
  tape : w'.tape = w.tape
  output : w'.output = w.output
  size : w.heap.size ≤ w'.heap.size
  block : ∀ k, k < w.heap.size → k ≠ p → w'.heap[k]? = w.heap[k]?

theorem Beside.refl (p : Nat) (w : World) : Beside p w w := ⟨rfl, rfl, rfl, Nat.le_refl _, fun _ _ _ => rfl⟩
theorem Beside.trans {p : Nat} {a b c : World} (h : Beside p a b) (k : Beside p b c) : Beside p a c :=
  ⟨k.os.trans h.os, k.tape.trans h.tape, k.output.trans h.output, Nat.le_trans h.size k.size, fun i hi hn => (k.block i (Nat.lt_of_lt_of_le hi h.size) hn).trans (h.block i hi hn)⟩
theorem Beside.of {p : Nat} {w w' : World} (h : Below w.heap.size w w') : Beside p w w' := ⟨h.os, h.tape, h.output, h.size, fun k hk _ => h.block k hk⟩
theorem Beside.below {p : Nat} {w w' : World} (h : Beside p w w') (hp : p ≤ w.heap.size) : Below p w w' := ⟨h.os, h.tape, h.output, h.size, fun k hk => h.block k (by omega) (by omega)⟩
theorem Beside.cell {p : Nat} {w w' : World} (h : Beside p w w') {a : Addr} (ha : a.block < w.heap.size) (hn : a.block ≠ p) : w'.cell? a = w.cell? a := World.cell?_of_block (h.block _ ha hn)
theorem Beside.frozen {p : Nat} {w w' : World} (h : Beside p w w') {a : Addr} (ha : a.block < w.heap.size) (hn : a.block ≠ p) : w'.frozen? a = w.frozen? a := World.frozen?_of_block (h.block _ ha hn)
theorem Beside.drawn {p : Nat} {w w' : World} (h : Beside p w w') (n : Nat) : Beside p w (w'.drewN n) := ⟨h.os, h.tape, h.output, h.size, h.block⟩
theorem Beside.set {p : Nat} {w w' : World} (h : Beside p w w') (i : Nat) (u : Value) : Beside p w (w'.setCell ⟨p, i, none⟩ u) :=
  ⟨h.os, h.tape, h.output, by simpa [World.setCell] using h.size, fun k hk hn => (Below.heap_setCell _ _ _ _ hn).trans (h.block k hk hn)⟩

/-- Bytes in a block below p. -/
def BytesAt (p : Nat) (w : World) (ao : Option Addr) (n : Nat) : Prop :=
  ∀ t, t < n → ∃ b o z, ao = some ⟨b, o, none⟩ ∧ b < p ∧ w.cell? ⟨b, o + t, none⟩ = some (.int .u8 z) ∧ 0 ≤ z ∧ z < 256

/-- The source in its block: bytes below it, at most A of them read, a seed. -/
structure SrcAt (p A : Nat) (w : World) : Prop where
  lt : p < w.heap.size
  z1 : w.frozen? ⟨p, 1, none⟩ = false
  z2 : w.frozen? ⟨p, 2, none⟩ = false
  at_ : ∃ ao n cap At Sd, w.cell? ⟨p, 0, none⟩ = some (.slice ao n cap) ∧ w.cell? ⟨p, 1, none⟩ = some (.int .i64 ((At : Nat) : Int)) ∧ w.cell? ⟨p, 2, none⟩ = some (.int .u64 Sd) ∧ At ≤ A ∧ n ≤ 1048576 ∧ n ≤ cap ∧ BytesAt p w ao n

theorem SrcAt.keep {p A : Nat} {w w' : World} (h : SrcAt p A w) (hb : Below (p + 1) w w') : SrcAt p A w' := by
  obtain ⟨lt, z1, z2, ao, n, cap, At, Sd, c0, c1, c2, h1, h2, h3, h6⟩ := h
  exact ⟨Nat.lt_of_lt_of_le lt hb.size, (hb.frozen (p := ⟨p, 1, none⟩) (Nat.lt_succ_self _)).trans z1, (hb.frozen (p := ⟨p, 2, none⟩) (Nat.lt_succ_self _)).trans z2, ao, n, cap, At, Sd, (hb.cell (p := ⟨p, 0, none⟩) (Nat.lt_succ_self _)).trans c0, (hb.cell (p := ⟨p, 1, none⟩) (Nat.lt_succ_self _)).trans c1, (hb.cell (p := ⟨p, 2, none⟩) (Nat.lt_succ_self _)).trans c2, h1, h2, h3, fun t ht => by
    obtain ⟨b, o, z, e, hbp, hc, y⟩ := h6 t ht
    exact ⟨b, o, z, e, hbp, (hb.cell (p := ⟨b, o + t, none⟩) (show b < p + 1 by omega)).trans hc, y⟩⟩
theorem SrcAt.more {p A A' : Nat} {w : World} (h : SrcAt p A w) (hA : A ≤ A') : SrcAt p A' w := by
  obtain ⟨lt, z1, z2, ao, n, cap, At, Sd, c0, c1, c2, h1, h2⟩ := h
  exact ⟨lt, z1, z2, ao, n, cap, At, Sd, c0, c1, c2, Nat.le_trans h1 hA, h2⟩

/-- What a draw does: some number, the source one or more steps on. -/
def Drawn (p A : Nat) (w : World) (lo hi : Int) (e : Ending) (w' : World) : Prop :=
  ∃ z : Int, e = .returned (.int .i64 z) ∧ lo ≤ z ∧ z < hi ∧ SrcAt p A w' ∧ Beside p w w'

theorem next_end {p A n cap At : Nat} {w w3 : World} {ao : Option Addr} (nq : Nat) (S' : Int) (c0 : w3.cell? ⟨p, 0, none⟩ = some (.slice ao n cap)) (c1 : w3.cell? ⟨p, 1, none⟩ = some (.int .i64 ((At : Nat) : Int))) {S : Int} (c2 : w3.cell? ⟨p, 2, none⟩ = some (.int .u64 S))
    (z1 : w3.frozen? ⟨p, 1, none⟩ = false) (z2 : w3.frozen? ⟨p, 2, none⟩ = false) (lt : p < w3.heap.size) (hB : Beside p w w3) (hlt : p < w.heap.size) (h1 : At ≤ A) (h2 : n ≤ 1048576) (h3 : n ≤ cap) (h6 : BytesAt p w ao n) :
    SrcAt p (A + 1) (((w3.setCell ⟨p, 1, none⟩ (.int .i64 ((At : Int) + 1))).setCell ⟨p, 2, none⟩ (.int .u64 S')).drewN nq) ∧ Beside p w (((w3.setCell ⟨p, 1, none⟩ (.int .i64 ((At : Int) + 1))).setCell ⟨p, 2, none⟩ (.int .u64 S')).drewN nq) := by
  refine ⟨⟨by simpa [World.setCell, World.drewN] using lt, by simp [z1], by simp [z2], ao, n, cap, At + 1, S', by simp [go_sem, c0], by simp [go_sem, c1], by simp [go_sem, c2], by omega, h2, h3, fun t ht => ?_⟩, ((hB.set 1 _).set 2 _).drawn nq⟩
  obtain ⟨b, o, z, e, hbp, hc, y⟩ := h6 t ht
  exact ⟨b, o, z, e, hbp, ((((hB.set 1 _).set 2 _).drawn nq).cell (a := ⟨b, o + t, none⟩) (show b < w.heap.size by omega) (show b ≠ p by omega)).trans hc, y⟩

theorem and255 (x : Int) (h0 : 0 ≤ x) (h1 : x < 18446744073709551616) : 0 ≤ wrap64 (bits .and .u64 x 255) ∧ wrap64 (bits .and .u64 x 255) < 256 := by
  rw [u64_and x 255 h0 h1 (by omega) (by omega)]
  have h : x.toNat &&& (255 : Int).toNat ≤ 255 := Nat.and_le_right
  have e : wrap64 ((x.toNat &&& (255 : Int).toNat : Nat) : Int) = ((x.toNat &&& (255 : Int).toNat : Nat) : Int) := by
    unfold wrap64
    omega
  rw [e]
  omega
theorem seed255 (Y : Int) : 0 ≤ wrap64 (bits .and .u64 (IntKind.u64.wrap Y / 1099511627776) 255) ∧ wrap64 (bits .and .u64 (IntKind.u64.wrap Y / 1099511627776) 255) < 256 := by
  refine and255 _ ?_ ?_ <;> rw [IntKind.wrap_u64] <;> omega

set_option maxHeartbeats 1000000 in
theorem next_any (p A : Nat) (w : World) (hs : SrcAt p A w) (hA : A ≤ 100000) :
    Calls Tryd.prog 49 #[.pointer (some ⟨p, 0, none⟩)] w (Drawn p (A + 1) w 0 256) := by
  obtain ⟨lt, z1, z2, ao, n, cap, At, Sd, c0, c1, c2, h1, h2, h3, h6⟩ := hs
  have HBy := Lib.hid h6
  have HLt := Lib.hid lt
  clear h6
  go_enter Tryd.func49, Tryd.ntmps49
  by_cases hin : At < n
  · obtain ⟨b, o, z, rfl, hbp, hc, y0, y1⟩ := HBy.out At hin
    have hbl : b < w.heap.size := by omega
    have HK := Lib.hid (And.intro c0 (And.intro c1 (And.intro c2 (And.intro z1 (And.intro z2 (And.intro hc (And.intro lt (And.intro hbl (Beside.refl p w)))))))))
    go_wp2
    go_quiet (fail)
    have hk : (w.drewN nq).cell? ⟨p, 0, none⟩ = some (.slice (some ⟨b, o, none⟩) n cap) ∧ (w.drewN nq).cell? ⟨p, 1, none⟩ = some (.int .i64 ((At : Nat) : Int)) ∧ (w.drewN nq).cell? ⟨p, 2, none⟩ = some (.int .u64 Sd) ∧ (w.drewN nq).frozen? ⟨p, 1, none⟩ = false ∧ (w.drewN nq).frozen? ⟨p, 2, none⟩ = false ∧ (w.drewN nq).cell? ⟨b, o + At, none⟩ = some (.int .u8 z) ∧ p < (w.drewN nq).heap.size ∧ b < (w.drewN nq).heap.size ∧ Beside p w (w.drewN nq) := ⟨HK.out.1, HK.out.2.1, HK.out.2.2.1, HK.out.2.2.2.1, HK.out.2.2.2.2.1, HK.out.2.2.2.2.2.1, HK.out.2.2.2.2.2.2.1, HK.out.2.2.2.2.2.2.2.1, (Beside.refl p w).drawn nq⟩
    clear HK c0 c1 c2 z1 z2 hc lt hbl
    generalize w.drewN nq = w2 at *
    clear nq
    obtain ⟨c0, c1, c2, z1, z2, hc, lt, hbl, hB⟩ := hk
    have HK := Lib.hid (And.intro c0 (And.intro c1 (And.intro c2 (And.intro z1 (And.intro z2 (And.intro hc (And.intro lt (And.intro hbl hB))))))))
    clear hB
    go_wp2
    go_quiet (fail)
    have hk : (w2.drewN nq).cell? ⟨p, 0, none⟩ = some (.slice (some ⟨b, o, none⟩) n cap) ∧ (w2.drewN nq).cell? ⟨p, 1, none⟩ = some (.int .i64 ((At : Nat) : Int)) ∧ (w2.drewN nq).cell? ⟨p, 2, none⟩ = some (.int .u64 Sd) ∧ (w2.drewN nq).frozen? ⟨p, 1, none⟩ = false ∧ (w2.drewN nq).frozen? ⟨p, 2, none⟩ = false ∧ p < (w2.drewN nq).heap.size ∧ Beside p w (w2.drewN nq) := ⟨HK.out.1, HK.out.2.1, HK.out.2.2.1, HK.out.2.2.2.1, HK.out.2.2.2.2.1, HK.out.2.2.2.2.2.2.1, HK.out.2.2.2.2.2.2.2.2.drawn nq⟩
    clear HK c0 c1 c2 z1 z2 hc lt hbl
    generalize w2.drewN nq = w3 at *
    clear nq
    obtain ⟨c0, c1, c2, z1, z2, lt, hB⟩ := hk
    have HK := Lib.hid (And.intro c0 (And.intro c1 (And.intro c2 (And.intro z1 (And.intro z2 (And.intro lt hB))))))
    clear hB
    go_wp2
    go_quiet (fail)
    go_wp2
    go_ret
    have hE := next_end nq (IntKind.u64.wrap (IntKind.u64.wrap (IntKind.u64.wrap (Sd * 6364136223846793005) + z) + 1442695040888963407)) c0 c1 c2 z1 z2 lt HK.out.2.2.2.2.2.2 HLt.out h1 h2 h3 HBy.out
    exact ⟨z, rfl, y0, y1, hE.1, hE.2⟩
  · have HK := Lib.hid (And.intro c0 (And.intro c1 (And.intro c2 (And.intro z1 (And.intro z2 (And.intro lt (Beside.refl p w)))))))
    go_wp2
    go_quiet (fail)
    have hk : (w.drewN nq).cell? ⟨p, 0, none⟩ = some (.slice ao n cap) ∧ (w.drewN nq).cell? ⟨p, 1, none⟩ = some (.int .i64 ((At : Nat) : Int)) ∧ (w.drewN nq).cell? ⟨p, 2, none⟩ = some (.int .u64 Sd) ∧ (w.drewN nq).frozen? ⟨p, 1, none⟩ = false ∧ (w.drewN nq).frozen? ⟨p, 2, none⟩ = false ∧ p < (w.drewN nq).heap.size ∧ Beside p w (w.drewN nq) := ⟨HK.out.1, HK.out.2.1, HK.out.2.2.1, HK.out.2.2.2.1, HK.out.2.2.2.2.1, HK.out.2.2.2.2.2.1, (Beside.refl p w).drawn nq⟩
    clear HK c0 c1 c2 z1 z2 lt
    generalize w.drewN nq = w3 at *
    clear nq
    obtain ⟨c0, c1, c2, z1, z2, lt, hB⟩ := hk
    have HK := Lib.hid (And.intro c0 (And.intro c1 (And.intro c2 (And.intro z1 (And.intro z2 (And.intro lt hB))))))
    clear hB
    go_wp2
    go_quiet (fail)
    go_wp2
    go_ret
    have hE := next_end nq (IntKind.u64.wrap (IntKind.u64.wrap (IntKind.u64.wrap (Sd * 6364136223846793005)) + 1442695040888963407)) c0 c1 c2 z1 z2 lt HK.out.2.2.2.2.2.2 HLt.out h1 h2 h3 HBy.out
    exact ⟨_, rfl, (seed255 _).1, (seed255 _).2, hE.1, hE.2⟩

set_option maxHeartbeats 1000000 in
theorem pick_any (p A : Nat) (N : Int) (w : World) (hs : SrcAt p A w) (hA : A ≤ 100000) (h0 : 1 ≤ N) (h1 : N ≤ 200) :
    Calls Tryd.prog 38 #[.pointer (some ⟨p, 0, none⟩), .int .i64 N] w (Drawn p (A + 1) w 0 N) := by
  have HS := Lib.hid hs
  clear hs
  go_enter Tryd.func38, Tryd.ntmps38
  by_cases hN : N = 1
  · subst hN
    go_wp2
    go_ret
    exact ⟨0, rfl, by omega, by omega, HS.out.more (by omega), Beside.refl _ _⟩
  · have hlt : 1 < N := by omega
    go_wp2_with fail
    refine (next_any p A _ HS.out hA).mono ?_
    rintro e w1 ⟨z, rfl, z0, z1, hs1, hb1⟩
    have HS1 := Lib.hid hs1
    have HB1 := Lib.hid hb1
    clear hs1 hb1
    go_wp2
    go_ret
    exact ⟨_, rfl, Int.emod_nonneg _ (by omega), Int.emod_lt_of_pos _ (by omega), HS1.out, HB1.out⟩

/-- One draw that says yes or no. -/
def DrawnB (p A : Nat) (w : World) (e : Ending) (w' : World) : Prop :=
  ∃ z : Bool, e = .returned (.bool z) ∧ SrcAt p A w' ∧ Beside p w w'

theorem one_any (p A : Nat) (N : Int) (w : World) (hs : SrcAt p A w) (hA : A ≤ 100000) (h0 : 1 ≤ N) (h1 : N ≤ 200) :
    Calls Tryd.prog 62 #[.pointer (some ⟨p, 0, none⟩), .int .i64 N] w (DrawnB p (A + 1) w) := by
  have HS := Lib.hid hs
  clear hs
  go_enter Tryd.func62, Tryd.ntmps62
  go_wp2_with fail
  refine (pick_any p A N _ HS.out hA h0 h1).mono ?_
  rintro e w1 ⟨z, rfl, z0, z1, hs1, hb1⟩
  have HS1 := Lib.hid hs1
  have HB1 := Lib.hid hb1
  clear hs1 hb1
  go_wp2
  go_ret
  exact ⟨_, rfl, HS1.out, HB1.out⟩

/-- Texts at an address, in another block than the source's. -/
def TxtOff (p : Nat) (w : World) (ao : Option Addr) (ls : List (List UInt8)) : Prop :=
  0 < ls.length → ∃ b o, ao = some ⟨b, o, none⟩ ∧ b ≠ p ∧ b < w.heap.size ∧ ∀ t, t < ls.length → w.cell? ⟨b, o + t, none⟩ = some (.string ⟨(ls.getD t []).toArray⟩)

theorem TxtOff.keep {p : Nat} {w w' : World} {ao : Option Addr} {ls : List (List UInt8)} (h : TxtOff p w ao ls) (hb : Beside p w w') : TxtOff p w' ao ls := by
  intro h0
  obtain ⟨b, o, e, hn, hlt, hc⟩ := h h0
  exact ⟨b, o, e, hn, Nat.lt_of_lt_of_le hlt hb.size, fun t ht => (hb.cell (a := ⟨b, o + t, none⟩) hlt hn).trans (hc t ht)⟩

/-- One of some texts. -/
def DrawnT (p A : Nat) (w : World) (ls : List (List UInt8)) (e : Ending) (w' : World) : Prop :=
  ∃ a, a ∈ ls ∧ e = .returned (.string ⟨a.toArray⟩) ∧ SrcAt p A w' ∧ Beside p w w'

theorem getD_in {ls : List (List UInt8)} {k : Nat} (h : k < ls.length) : ls.getD k [] ∈ ls := by
  rw [List.getD_eq_getElem?_getD, List.getElem?_eq_getElem h]
  exact List.getElem_mem _

set_option maxHeartbeats 400000 in
theorem pickText_any (p A : Nat) (ao : Option Addr) (cap : Nat) (ls : List (List UInt8)) (w : World) (hs : SrcAt p A w) (hA : A ≤ 100000) (ht : TxtOff p w ao ls) (h0 : 0 < ls.length) (h1 : ls.length ≤ 200) :
    Calls Tryd.prog 51 #[.pointer (some ⟨p, 0, none⟩), .slice ao ls.length cap] w (DrawnT p (A + 1) w ls) := by
  obtain ⟨b, o, rfl, hn, hlt, hc⟩ := ht h0
  have HS := Lib.hid hs
  have HC := Lib.hid hc
  generalize hN : ls.length = N at *
  have HN := Lib.hid hN
  clear hs hc hN
  go_enter Tryd.func51, Tryd.ntmps51
  go_wp2_with fail
  refine (pick_any p A N _ HS.out hA (by omega) (by omega)).mono ?_
  rintro e w1 ⟨z, rfl, z0, z1, hs1, hb1⟩
  obtain ⟨k, rfl⟩ : ∃ k : Nat, z = k := ⟨z.toNat, by omega⟩
  have hk : k < N := by omega
  have c1 := (hb1.cell (a := ⟨b, o + k, none⟩) hlt hn).trans (HC.out k hk)
  have HS1 := Lib.hid hs1
  have HB1 := Lib.hid hb1
  have HM := Lib.hid (getD_in (ls := ls) (k := k) (by rw [HN.out]; exact hk))
  generalize ls.getD k [] = a at *
  clear hs1 hb1 z0 z1
  go_wp2
  go_ret
  exact ⟨a, HM.out, rfl, HS1.out, HB1.out⟩

/-- The new source. -/
theorem from_any (ao : Option Addr) (n cap : Nat) (w : World) (hn : n ≤ 1048576) (hc : n ≤ cap) (hb : BytesAt w.heap.size w ao n) :
    Calls Tryd.prog 37 #[.slice ao n cap] w fun e w' => e = .returned (.pointer (some ⟨w.heap.size, 0, none⟩)) ∧ SrcAt w.heap.size 0 w' ∧ Below w.heap.size w w' ∧ w.heap.size < w'.heap.size := by
  have HB := Lib.hid hb
  clear hb
  go_enter Tryd.func37, Tryd.ntmps37
  go_wp2
  go_ret
  have hb : Below w.heap.size w (w.alloc (.cells #[.slice ao n cap, .int .i64 0, .int .u64 0] 81)) := (Below.refl _ _).alloc (Nat.le_refl _) _
  refine ⟨rfl, ⟨by simp, by simp [go_sem], by simp [go_sem], ao, n, cap, 0, 0, by simp [go_sem], by simp [go_sem], by simp [go_sem], Nat.le_refl _, hn, hc, fun t ht => ?_⟩, hb, by simp⟩
  obtain ⟨b, o, z, e, hlt, hcc, y⟩ := HB.out t ht
  exact ⟨b, o, z, e, hlt, (hb.cell (p := ⟨b, o + t, none⟩) hlt).trans hcc, y⟩

end Go.Proofs.YthmjcjoecelnmaaDoor
