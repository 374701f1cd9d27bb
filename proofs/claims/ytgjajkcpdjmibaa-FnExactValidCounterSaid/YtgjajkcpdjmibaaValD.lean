/-
  The reference's test of rising numbers and of the number of letters, each by its contract: what the plain description says. Conditions: lengths of at most 1048576.
-/
import Derived.Test.YtgjajkcpdjmibaaValC
namespace Go.Proofs.Ytgjajkcpdjmibaa
open Go.RowKit
set_option linter.unusedVariables false

theorem quiet_left {P : Program} {f : FuncId} {args : Array Value} {w : World} {n : Nat} {v : Value}
    (h : Calls P f args (w.drewN n) fun e w' => e = .returned v ∧ w.drewN n = w') : Calls P f args (w.drewN n) fun e w'' => e = .returned v ∧ ∃ m, w'' = w.drewN m :=
  h.mono fun _ _ ⟨he, hm⟩ => ⟨he, n, hm.symm⟩

/-- The first k numbers rise, from 0 to hi. -/
def Rise (acc : List Int) (hi : Int) (k : Nat) : Prop := ∀ i, i < k → (0 ≤ acc.getD i 0 ∧ acc.getD i 0 ≤ hi) ∧ (0 < i → acc.getD (i - 1) 0 < acc.getD i 0)
instance (acc : List Int) (hi : Int) (k : Nat) : Decidable (Rise acc hi k) := by unfold Rise; infer_instance
def riseB (acc : List Int) (hi : Int) : Bool := decide (Rise acc hi acc.length)
theorem riseB_yes {acc : List Int} {hi : Int} (h : Rise acc hi acc.length) : riseB acc hi = true := decide_eq_true h
theorem riseB_no {acc : List Int} {hi : Int} (h : ¬ Rise acc hi acc.length) : riseB acc hi = false := decide_eq_false h
theorem riseB_iff {acc : List Int} {hi : Int} : riseB acc hi = true ↔ Rise acc hi acc.length := decide_eq_true_iff

theorem Rise.zero (acc : List Int) (hi : Int) : Rise acc hi 0 := fun i h => by omega
theorem Rise.succ {acc : List Int} {hi : Int} {k : Nat} (h : Rise acc hi k) (h1 : 0 ≤ acc.getD k 0 ∧ acc.getD k 0 ≤ hi) (h2 : 0 < k → acc.getD (k - 1) 0 < acc.getD k 0) : Rise acc hi (k + 1) := by
  intro i hi'
  by_cases e : i = k
  · subst e; exact ⟨h1, h2⟩
  · exact h i (by omega)

set_option maxHeartbeats 1000000 in
theorem rises_any (ao : Option Addr) (acc : List Int) (cap : Nat) (hi : Int) (w : World) (hr : RowAt 0 w ao acc) (hl : acc.length ≤ 1048576) :
    Calls Try.prog 35 #[.slice ao acc.length cap, .int .i64 0, .int .i64 hi] w fun e w' => e = .returned (.bool (riseB acc hi)) ∧ ∃ n, w' = w.drewN n := by
  generalize hn : acc.length = n at *
  have Hn := Lib.hid hn
  have HR : Hid (RowAt 0 w ao acc) := hr
  clear hr hn
  go_enter Try.func35, Try.ntmps35
  go_wp2
  go_loopw [7] (fun i wr => ∃ k : Nat, k ≤ n ∧ i = .int .i64 k ∧ Rise acc hi k ∧ ∃ d, wr = w.drewN d) (fun i _ => n - (intOf i).toNat)
  case atStart => exact ⟨0, by omega, rfl, Rise.zero _ _, 0, rfl⟩
  case round =>
    obtain ⟨k, hk, rfl, hrs, d, hw⟩ := hrel
    have HS : Hid (Rise acc hi k) := hrs
    have HW := Lib.hid hw
    have hcell : ∀ p, wr.cell? p = w.cell? p := fun p => by rw [hw]; rfl
    have HC := Lib.hid hcell
    clear hrs hw hcell
    by_cases hlt : k < n
    · obtain ⟨b, o, rfl, -, hbl, hc⟩ := HR.out (by have := Hn.out; omega)
      have hc1 : wr.cell? ⟨b, o + k, none⟩ = some (.int .i64 (acc.getD k 0)) := (HC.out _).trans (hc k (by have := Hn.out; omega))
      cases hin : inB (acc.getD k 0) 0 hi
      · have HF : Hid (riseB acc hi = false) := riseB_no fun h => by
          have h1 := (h k (by have := Hn.out; omega)).1
          rw [inB_yes h1] at hin
          exact absurd hin (by simp)
        clear hc
        generalize acc.getD k 0 = z at *
        go_wp2
        go_quiet ((go_at_call 22; exact quiet_left (l00In_any _ _ _ _)))
        go_wp2
        go_ret
        exact ⟨ret_bool HF.out.symm, _, by rw [HW.out, World.drewN_drewN]⟩
      · have HI := Lib.hid (inB_iff.1 hin)
        by_cases hk0 : k = 0
        · have HN : Hid (Rise acc hi (k + 1)) := HS.out.succ HI.out (fun h => by omega)
          have hd : decide (0 < k) = false := by simp [hk0]
          clear hk0 hc
          generalize acc.getD k 0 = z at *
          go_wp2
          go_quiet ((go_at_call 22; exact quiet_left (l00In_any _ _ _ _)))
          go_wp2
          go_roundw
          case rel => exact ⟨k + 1, by omega, by go_num, HN.out, _, by rw [HW.out, World.drewN_drewN]⟩
          case measure => simp [intOf]; omega
        · obtain ⟨j, rfl⟩ : ∃ j, k = j + 1 := ⟨k - 1, by omega⟩
          have hc2 : wr.cell? ⟨b, o + j, none⟩ = some (.int .i64 (acc.getD j 0)) := (HC.out _).trans (hc j (by have := Hn.out; omega))
          have hd : (0 : Int) < (j : Int) + 1 := by omega
          by_cases hge : acc.getD (j + 1) 0 ≤ acc.getD j 0
          · have HF : Hid (riseB acc hi = false) := riseB_no fun h => by
              have h1 := (h (j + 1) (by have := Hn.out; omega)).2 (by omega)
              rw [Nat.add_sub_cancel] at h1
              omega
            clear hc hk0
            generalize acc.getD (j + 1) 0 = z at *
            generalize acc.getD j 0 = y at *
            go_wp2
            go_quiet ((go_at_call 22; exact quiet_left (l00In_any _ _ _ _)))
            go_wp2
            go_ret
            exact ⟨ret_bool HF.out.symm, _, by rw [HW.out, World.drewN_drewN]⟩
          · have HN : Hid (Rise acc hi (j + 1 + 1)) := HS.out.succ HI.out (fun h => by rw [Nat.add_sub_cancel]; omega)
            clear hc hk0
            generalize acc.getD (j + 1) 0 = z at *
            generalize acc.getD j 0 = y at *
            have hge' : decide (z ≤ y) = false := by simpa using hge
            go_wp2
            go_quiet ((go_at_call 22; exact quiet_left (l00In_any _ _ _ _)))
            go_wp2
            go_roundw
            case rel => exact ⟨j + 1 + 1, by omega, by go_num, HN.out, _, by rw [HW.out, World.drewN_drewN]⟩
            case measure => simp [intOf]; omega
    · have HT : Hid (riseB acc hi = true) := riseB_yes (by have := Hn.out; have h := HS.out; rw [show acc.length = k by omega]; exact h)
      go_wp2
      go_ret
      exact ⟨ret_bool HT.out.symm, _, HW.out⟩

set_option maxHeartbeats 400000 in
theorem letters_any (n : Int) (w : World) :
    Calls Try.prog 34 #[.int .i64 n] w fun e w' => e = .returned (.bool (inB n 1 3)) ∧ w = w' := by
  go_enter Try.func34, Try.ntmps34
  go_wp2_with (go_at_call 22; refine (l00In_any _ _ _ _).mono ?_; rintro e w' ⟨rfl, rfl⟩)
  go_ret
  exact ⟨rfl, rfl⟩

end Go.Proofs.Ytgjajkcpdjmibaa
