/-
  B10Lines by its contract: at most five lines of at most 120 bytes, none with a newline.
-/
import Derived.Test.YthmjcjoecelnmaaDoorTh
namespace Go.Proofs.YthmjcjoecelnmaaDoor
open Go.RowKit
set_option linter.unusedVariables false

/-- What B10Lines does. -/
def LinesD (w : World) (e : Ending) (w' : World) : Prop :=
  ∃ ao ca Ls, e = .returned (.slice ao Ls.length ca) ∧ TxtAt 0 w' ao Ls ∧ Ls.length ≤ ca ∧ Ls.length ≤ 5 ∧ (∀ a ∈ Ls, Cl 120 a) ∧ Below w.heap.size w w'

set_option maxRecDepth 100000 in
set_option maxHeartbeats 2000000 in
theorem b10Lines_any (ao no bo : Option Addr) (n cap ca cb : Nat) (L : List (List UInt8)) (w : World) (hn : n ≤ 1048576) (hc : n ≤ cap) (hb : BytesAt w.heap.size w ao n) (ht : TxtAt 0 w no L) (hl : L.length ≤ 3) (hcl : ∀ a ∈ L, Cl 8 a) :
    Calls Tryd.prog 19 #[.slice ao n cap, .agg #[.slice no L.length ca, .slice bo L.length cb]] w (LinesD w) := by
  obtain ⟨i0, hi, hz0, hz1, hz2⟩ := info_parts Tryd.info9
  have hb0 : Below w.heap.size w (w.alloc (.cells #[.slice no L.length ca, .slice bo L.length cb] 39)) := (Below.refl _ _).alloc (Nat.le_refl _) _
  have HB0 := Lib.hid hb0
  have hby : BytesAt (w.alloc (.cells #[.slice no L.length ca, .slice bo L.length cb] 39)).heap.size (w.alloc (.cells #[.slice no L.length ca, .slice bo L.length cb] 39)) ao n := fun t ht => by
    obtain ⟨b, o, z, e, hlt, hcc, y⟩ := hb t ht
    exact ⟨b, o, z, e, by simp; omega, (hb0.cell (p := ⟨b, o + t, none⟩) hlt).trans hcc, y⟩
  have HBy := Lib.hid hby
  have hsz : (w.alloc (.cells #[.slice no L.length ca, .slice bo L.length cb] 39)).heap.size = w.heap.size + 1 := by simp
  have hnm : ∀ W, Below (w.alloc (.cells #[.slice no L.length ca, .slice bo L.length cb] 39)).heap.size (w.alloc (.cells #[.slice no L.length ca, .slice bo L.length cb] 39)) W → NamesAt (w.alloc (.cells #[.slice no L.length ca, .slice bo L.length cb] 39)).heap.size w.heap.size L W := fun W hb => by
    have hs := hb.size
    refine ⟨by omega, by omega, ⟨no, ca, ?_, fun h0 => ?_⟩, hcl⟩
    · rw [hb.cell (p := ⟨w.heap.size, 0, none⟩) (show w.heap.size < _ by omega)]
      simp [go_sem]
    · obtain ⟨b, o, e, _, hlt, hcc⟩ := ht h0
      exact ⟨b, o, e, by omega, by omega, fun t ht => (hb.cell (p := ⟨b, o + t, none⟩) (show b < _ by omega)).trans ((hb0.cell (p := ⟨b, o + t, none⟩) hlt).trans (hcc t ht))⟩
  have HNm := Lib.hid hnm
  have HSz := Lib.hid hsz
  clear hb0 hby hsz hnm ht hb hcl
  go_enter Tryd.func19, Tryd.ntmps19
  go_wp2_with fail
  generalize w.alloc (.cells #[.slice no L.length ca, .slice bo L.length cb] 39) = w0 at *
  refine (from_any ao n cap w0 hn hc HBy.out).mono ?_
  rintro e w1 ⟨rfl, hs1, hb1, hl1⟩
  have HS1 := Lib.hid hs1
  have HB1 := Lib.hid hb1
  have hst := World.ownsRow_made (base := w1.heap.size) (e := 9) (size := 1) w1 #[] 0 (Nat.le_refl _) (by simp [maxLen]) rfl
  have HSt := Lib.hid hst
  have hb2 : Below w1.heap.size w1 (w1.alloc (.cells #[] 9)) := (Below.refl _ _).alloc (Nat.le_refl _) _
  have HB2 := Lib.hid hb2
  clear hs1 hb1 hst hb2
  go_wp2_with fail
  refine (pick_any w0.heap.size 0 6 _ (HS1.out.below HB2.out) (by omega) (by omega) (by omega)).mono ?_
  rintro e w3 ⟨z, rfl, z0, z1, hs3, hb3⟩
  obtain ⟨N, rfl⟩ : ∃ N : Nat, z = N := ⟨z.toNat, by omega⟩
  have HS3 := Lib.hid hs3
  have hbb : Below w0.heap.size w0 w3 := (HB1.out.trans (HB2.out.mono (by omega))).trans (hb3.below (by simp; omega))
  have HB3 := Lib.hid hbb
  have HO3 := Lib.hid (own_beside HSt.out hl1 hb3)
  have hl3 : w1.heap.size ≤ w3.heap.size := by have := HB2.out.size; have := hb3.size; omega
  clear hs3 hb3 hbb
  go_wp2
  go_loopg [6, 7] N (fun g v i wr => ∃ (j : Nat) (Ls : List (List UInt8)), i = .int .i64 j ∧ g = j ∧ Ls.length + j ≤ 5 ∧ (∀ a ∈ Ls, Cl 120 a) ∧ wr.ownsRow w1.heap.size 9 1 v Ls.length (Ls.map sv) ∧ SrcAt w0.heap.size (1 + 200 - 40 * j) wr ∧ Below w0.heap.size w0 wr ∧ w1.heap.size ≤ wr.heap.size)
  case atStart => exact ⟨N, [], rfl, rfl, by simp; omega, (fun a ha => by cases ha), HO3.out, HS3.out.more (by omega), HB3.out, hl3⟩
  case round =>
    clear HS1 HB1 HSt HB2 HS3 HB3 HO3 hl3
    obtain ⟨j, Ls, rfl, rfl, hj, hLs, hown, hs, hb, hlr⟩ := hrel
    have HLs := Lib.hid hLs
    have HO := Lib.hid hown
    have HS := Lib.hid hs
    have HB := Lib.hid hb
    clear hLs hown hs hb
    by_cases hlt : 0 < gk
    · go_wp2_with fail
      refine (line_any w0.heap.size (1 + 200 - 40 * gk) w.heap.size L _ HS.out (HNm.out _ HB.out) (by omega) hl).mono ?_
      rintro e w2 ⟨a, ha, rfl, hs2, hb2⟩
      have HA := Lib.hid ha
      have HS2 := Lib.hid hs2
      have hl2 : w1.heap.size ≤ w2.heap.size := Nat.le_trans hlr hb2.size
      have HB2 := Lib.hid (HB.out.trans (hb2.below (by omega)))
      have HO2 := Lib.hid (own_beside HO.out hl1 hb2)
      clear ha hs2 hb2
      go_wp2_with (first | (at_builtin; refine wpList_append_own _ rfl _ _ 24 rfl w1.heap.size 9 i0 (.string ⟨#[]⟩) 1 16 Tryd.underlying24 hi hz0 hz1 hz2 rfl (by decide) _ _ _ rfl (HO2.out.alloc _) ⟨w2.heap.size, 0, none⟩ 1 1 [.string ⟨a.toArray⟩] rfl rfl ?c1 ?c2 ?c3 ?c4 ?c5 ?_))
      case c1 => exact one_at _ _ _
      case c2 => first | rfl | (intro u hu; simp at hu; subst hu; rfl)
      case c3 => unfold maxLen; omega
      case c4 => omega
      case c5 => first | omega | (simp; omega)
      intro v' w5 hown' hgrow _
      have ho : w5.ownsRow w1.heap.size 9 1 v' (Ls ++ [a]).length ((Ls ++ [a]).map sv) := by simpa [sv] using hown'
      have HO5 := Lib.hid ho
      have HG5 : Hid (Below w1.heap.size w2 w5) := ((Below.refl _ _).alloc hl2 _).grown hgrow (by simp; omega) (fun k hk => (HO2.out.lt k hk).1)
      clear hown' hgrow ho
      go_wp2
      go_roundg (gk - 1)
      case measure => omega
      case rel =>
        refine ⟨gk - 1, Ls ++ [a], by congr 1; omega, rfl, by simp; omega, fun x hx => ?_, HO5.out, (HS2.out.keep (HG5.out.mono (by omega))).more (by omega), HB2.out.trans (HG5.out.mono (by omega)), Nat.le_trans hl2 HG5.out.size⟩
        rcases List.mem_append.1 hx with h | h
        · exact HLs.out x h
        · rw [List.mem_singleton.1 h]; exact HA.out
    · obtain rfl : gk = 0 := by omega
      obtain ⟨ro, rc, hv, htx, -, hlc, -⟩ := txt_view HO.out
      have HTx := Lib.hid (And.intro htx hlc)
      subst hv
      clear htx hlc
      go_wp2
      go_ret
      exact ⟨_, _, Ls, rfl, HTx.out.1.low (Nat.zero_le _), HTx.out.2, by omega, HLs.out, HB0.out.trans (HB.out.mono (by have := HSz.out; omega))⟩

end Go.Proofs.YthmjcjoecelnmaaDoor
