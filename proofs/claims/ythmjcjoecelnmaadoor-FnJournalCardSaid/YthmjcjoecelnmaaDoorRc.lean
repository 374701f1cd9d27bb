/-
  The reference's lines of a text by their contract. Condition: at most 4000 bytes.
-/
import Derived.Test.YthmjcjoecelnmaaDoorRb
namespace Go.Proofs.YthmjcjoecelnmaaDoor
open Go.RowKit
set_option linter.unusedVariables false

/-- The value of a text. -/
def sv (l : List UInt8) : Value := .string ⟨l.toArray⟩

/-- A slice at an address that holds these texts, in a block from lo on. -/
def TxtAt (lo : Nat) (w : World) (ao : Option Addr) (ls : List (List UInt8)) : Prop :=
  0 < ls.length → ∃ b o, ao = some ⟨b, o, none⟩ ∧ lo ≤ b ∧ b < w.heap.size ∧ ∀ t, t < ls.length → w.cell? ⟨b, o + t, none⟩ = some (sv (ls.getD t []))

theorem TxtAt.keep {lo : Nat} {w w' : World} {ao : Option Addr} {ls : List (List UInt8)} (h : TxtAt lo w ao ls) (hb : Below w.heap.size w w') : TxtAt lo w' ao ls := by
  intro h0
  obtain ⟨b, o, e, l, hlt, hc⟩ := h h0
  exact ⟨b, o, e, l, Nat.lt_of_lt_of_le hlt hb.size, fun t ht => (hb.cell (p := ⟨b, o + t, none⟩) hlt).trans (hc t ht)⟩

theorem TxtAt.low {lo lo' : Nat} {w : World} {ao : Option Addr} {ls : List (List UInt8)} (h : TxtAt lo w ao ls) (hl : lo' ≤ lo) : TxtAt lo' w ao ls := by
  intro h0
  obtain ⟨b, o, e, l, hlt, hc⟩ := h h0
  exact ⟨b, o, e, Nat.le_trans hl l, hlt, hc⟩

theorem TxtAt.drawn {lo : Nat} {w : World} {ao : Option Addr} {ls : List (List UInt8)} (h : TxtAt lo w ao ls) (n : Nat) : TxtAt lo (w.drewN n) ao ls := h.keep (below_drewN (Below.refl _ _) n)

theorem txt_view {lo : Nat} {w : World} {v : Value} {ls : List (List UInt8)} (h : w.ownsRow lo 9 1 v ls.length (ls.map sv)) :
    ∃ ao cap, v = .slice ao ls.length cap ∧ TxtAt lo w ao ls ∧ (ao = none → cap = 0) ∧ ls.length ≤ cap ∧ cap ≤ 9223372036854775807 := by
  have h0 := h
  obtain ⟨_, h2⟩ := h
  rcases h2 with ⟨rfl, hn⟩ | ⟨g, cap, cur, rfl, hg, hh, hn, hcap, hsz, htake⟩
  · exact ⟨none, 0, by rw [hn], fun h => by omega, fun _ => rfl, by omega, by omega⟩
  · refine ⟨some ⟨g, 0, none⟩, cap, rfl, fun _ => ⟨g, 0, rfl, hg, (Array.getElem?_eq_some_iff.1 hh).1, fun t ht => ?_⟩, (fun h => by cases h), hn, by unfold maxLen at hcap; omega⟩
    rw [Nat.zero_add, h0.cellAt t (by omega)]
    simp [List.getD, ht]

theorem extract_mid (l : List UInt8) (s k : Nat) (h : s ≤ k) (h2 : k ≤ l.length) : Value.string ((⟨l.toArray⟩ : ByteArray).extract s k) = sv ((l.drop s).take (k - s)) := by
  unfold sv
  congr 1
  apply bytes_eq
  rw [Lib.extract_data]

/-- What l11Lines returns: the whole lines and the rest. -/
def LinesRes (l : List UInt8) (w : World) (e : Ending) (w' : World) : Prop :=
  ∃ ao cap rest, e = .returned (.tuple #[.slice ao (lns [] l).length cap, .string rest]) ∧ TxtAt w.heap.size w' ao (lns [] l) ∧ (ao = none → cap = 0) ∧ (lns [] l).length ≤ cap ∧ cap ≤ 9223372036854775807 ∧ Below w.heap.size w w'

theorem lns_length (l : List UInt8) : ∀ acc, (lns acc l).length ≤ l.length := by
  induction l with
  | nil => intro acc; simp [lns]
  | cons b r ih =>
    intro acc
    simp only [lns]
    split
    · have := ih []
      simp; omega
    · have := ih (acc ++ [b])
      simp; omega

/-- What holds at each round's head: the lines so far, the bytes since, and what is left. -/
def LLoop (l : List UInt8) (s k : Nat) (L : List (List UInt8)) : Prop :=
  s ≤ k ∧ k ≤ l.length ∧ lns [] l = L ++ lns [] (l.drop s) ∧ (∀ i, s ≤ i → i < k → l.getD i 0 ≠ 10) ∧ L.length ≤ k

theorem LLoop.on {l : List UInt8} {s k : Nat} {L : List (List UInt8)} (h : LLoop l s k L) (hk : k < l.length) (hne : l.getD k 0 ≠ 10) : LLoop l s (k + 1) L := by
  obtain ⟨h1, h2, h3, h4, h5⟩ := h
  refine ⟨by omega, by omega, h3, fun i hi hi2 => ?_, by omega⟩
  by_cases e : i = k
  · rw [e]; exact hne
  · exact h4 i hi (by omega)

theorem piece_clean {l : List UInt8} {s k : Nat} (h : ∀ i, s ≤ i → i < k → l.getD i 0 ≠ 10) (hk : k ≤ l.length) : (10 : UInt8) ∉ (l.drop s).take (k - s) := by
  intro hm
  obtain ⟨i, hi, he⟩ := List.mem_iff_getElem.1 hm
  simp only [List.length_take, List.length_drop] at hi
  simp only [List.getElem_take, List.getElem_drop] at he
  have := h (s + i) (by omega) (by omega)
  rw [List.getD_eq_getElem?_getD, List.getElem?_eq_getElem (by omega)] at this
  exact this he

theorem LLoop.line {l : List UInt8} {s k : Nat} {L : List (List UInt8)} (h : LLoop l s k L) (hk : k < l.length) (he : l.getD k 0 = 10) : LLoop l (k + 1) (k + 1) (L ++ [(l.drop s).take (k - s)]) := by
  obtain ⟨h1, h2, h3, h4, h5⟩ := h
  refine ⟨by omega, by omega, ?_, fun i hi hi2 => by omega, by simp; omega⟩
  have e : l.drop s = (l.drop s).take (k - s) ++ 10 :: l.drop (k + 1) := by
    conv => lhs; rw [← List.take_append_drop (k - s) (l.drop s)]
    congr 1
    rw [List.drop_drop, show s + (k - s) = k by omega, List.drop_eq_getElem_cons hk]
    congr 1
    rw [List.getD_eq_getElem?_getD, List.getElem?_eq_getElem hk] at he
    exact he
  rw [h3]
  conv => lhs; rw [e]
  rw [lns_cut _ _ _ (piece_clean h4 h2)]
  simp

theorem LLoop.done {l : List UInt8} {s : Nat} {L : List (List UInt8)} (h : LLoop l s l.length L) : L = lns [] l := by
  obtain ⟨h1, h2, h3, h4, h5⟩ := h
  rw [h3, lns_none]
  · simp
  · have := piece_clean h4 (Nat.le_refl _)
    rw [List.take_of_length_le (by simp)] at this
    exact this

set_option maxRecDepth 100000 in
set_option maxHeartbeats 1000000 in
theorem lines_any (l : List UInt8) (w : World) (hl : l.length ≤ 4000) :
    Calls Tryd.prog 26 #[.string ⟨l.toArray⟩] w (LinesRes l w) := by
  obtain ⟨i0, hi, hz0, hz1, hz2⟩ := info_parts Tryd.info9
  go_enter Tryd.func26, Tryd.ntmps26
  go_wp2
  have hstart : (w.alloc (.cells #[] 9)).ownsRow w.heap.size 9 1 (.slice (some ⟨w.heap.size, 0, none⟩) 0 0) 0 [] := by
    have h := World.ownsRow_made (base := w.heap.size) (e := 9) (size := 1) w #[] 0 (by simp) (by simp [maxLen]) rfl
    exact h
  have HStart := Lib.hid hstart
  clear hstart
  go_loopw [4, 5, 6] (fun v s i wr => ∃ S k : Nat, ∃ L : List (List UInt8), s = .int .i64 S ∧ i = .int .i64 k ∧ LLoop l S k L ∧ wr.ownsRow w.heap.size 9 1 v L.length (L.map sv) ∧ Below w.heap.size w wr) (fun _ _ i _ => l.length - (intOf i).toNat)
  case atStart => exact ⟨0, 0, [], rfl, rfl, ⟨by omega, by omega, rfl, fun i _ h => by omega, by simp⟩, HStart.out, (Below.refl _ _).alloc (by simp) _⟩
  case round =>
    obtain ⟨S, k, L, rfl, rfl, hZ, hown, hb⟩ := hrel
    have HZ := Lib.hid hZ
    have HB := Lib.hid hb
    obtain ⟨b1, b2, -, -, b3⟩ := hZ
    have hsz := hb.size
    clear hb
    by_cases hk : k < l.length
    · go_wp2_with (first | (at_builtin; refine wpList_append_own _ rfl _ _ 24 rfl w.heap.size 9 i0 (.string ⟨#[]⟩) 1 16 Tryd.underlying24 hi hz0 hz1 hz2 rfl (by decide) _ _ _ rfl (hown.alloc _) ⟨wr.heap.size, 0, none⟩ 1 1 [.string ((⟨l.toArray⟩ : ByteArray).extract S k)] rfl rfl ?c1 ?c2 ?c3 ?c4 ?c5 ?_))
      case c1 => exact one_at _ _ _
      case c2 => first | rfl | (intro u hu; simp at hu; subst hu; rfl)
      case c3 => unfold maxLen; omega
      case c4 => omega
      case c5 => first | omega | (simp; omega)
      case roundEnd =>
        have hc : (((⟨l.toArray⟩ : ByteArray)[k].toNat : Int) == 10) = false := by assumption
        have hne : l.getD k 0 ≠ 10 := by
          intro e
          rw [List.getD_eq_getElem?_getD, List.getElem?_eq_getElem hk] at e
          simp only [Option.getD_some] at e
          have e2 : (⟨l.toArray⟩ : ByteArray)[k] = l[k] := rfl
          rw [e2, e] at hc
          exact absurd hc (by decide)
        go_roundw
        case rel => exact ⟨S, k + 1, L, rfl, by go_num, HZ.out.on hk hne, hown, HB.out⟩
        case measure => simp [intOf] <;> omega
      intro v' w1 hown' hgrow _
      have hc : (((⟨l.toArray⟩ : ByteArray)[k].toNat : Int) == 10) = true := by assumption
      have he : l.getD k 0 = 10 := by
        rw [List.getD_eq_getElem?_getD, List.getElem?_eq_getElem hk]
        have e2 : (⟨l.toArray⟩ : ByteArray)[k] = l[k] := rfl
        rw [e2] at hc
        have h1 : (l[k].toNat : Int) = 10 := by simpa using hc
        exact UInt8.toNat_inj.1 (by show l[k].toNat = 10; omega)
      have HS := Lib.hid (HZ.out.line hk he)
      rw [extract_mid l S k b1 b2] at hown'
      have ho : w1.ownsRow w.heap.size 9 1 v' (L ++ [(l.drop S).take (k - S)]).length ((L ++ [(l.drop S).take (k - S)]).map sv) := by
        simpa using hown'
      have HO := Lib.hid ho
      clear ho
      have HB2 : Hid (Below w.heap.size w w1) :=
        (HB.out.alloc (by omega) _).grown hgrow (by simp; omega) (fun k hk => (hown.lt k hk).1)
      clear hown' hgrow hown he hc
      go_wp2
      go_roundw
      case rel => exact ⟨k + 1, k + 1, _, by go_num, by go_num, HS.out, HO.out, HB2.out⟩
      case measure => simp [intOf] <;> omega
    · obtain rfl : k = l.length := by omega
      have e := HZ.out.done
      subst e
      obtain ⟨ao, cap, rfl, hrow, hnone, hlc, hcap⟩ := txt_view hown
      have HRow := Lib.hid hrow
      have HNone := Lib.hid hnone
      have HCap := Lib.hid hcap
      have HL := Lib.hid hlc
      clear hrow hnone hcap hown hlc
      go_wp2
      go_quiet (fail)
      go_wp2
      exact bodyPost_ret (v := .tuple #[.slice ao (lns [] l).length cap, .string ((⟨l.toArray⟩ : ByteArray).extract S l.length)]) (by simp [results, Tryd.results26, go_sem]) rfl ⟨ao, cap, _, rfl, HRow.out.drawn _, HNone.out, HL.out, HCap.out, below_drewN HB.out _⟩

end Go.Proofs.YthmjcjoecelnmaaDoor
