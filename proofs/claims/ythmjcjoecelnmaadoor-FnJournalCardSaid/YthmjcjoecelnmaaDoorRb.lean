/-
  The lines of a text and what is recovered of them, plain; strings.Cut at one byte and the reference's lines by their contracts. No condition beyond those typed.
-/
import Derived.Test.YthmjcjoecelnmaaDoorRa
namespace Go.Proofs.YthmjcjoecelnmaaDoor
open Go.RowKit
set_option linter.unusedVariables false

/-- The whole lines of a text: each ends with a newline. -/
def lns (acc : List UInt8) : List UInt8 → List (List UInt8)
  | [] => []
  | b :: r => if b = 10 then acc :: lns [] r else lns (acc ++ [b]) r
theorem lns_none (a : List UInt8) : ∀ acc, 10 ∉ a → lns acc a = [] := by
  induction a with
  | nil => intro acc h; rfl
  | cons b r ih =>
    intro acc h
    simp at h
    simp only [lns]
    rw [if_neg (fun e => h.1 e.symm), ih _ h.2]
theorem lns_cut (a r : List UInt8) : ∀ acc, 10 ∉ a → lns acc (a ++ 10 :: r) = (acc ++ a) :: lns [] r := by
  induction a with
  | nil => intro acc h; simp [lns]
  | cons b t ih =>
    intro acc h
    simp at h
    simp only [lns, List.cons_append]
    rw [if_neg (fun e => h.1 e.symm), ih _ h.2]
    simp

/-- A line's parts around its first space. -/
def spl : List UInt8 → Option (List UInt8 × List UInt8)
  | [] => none
  | b :: r => if b = 32 then some ([], r) else (spl r).map fun p => (b :: p.1, p.2)
theorem spl_none (a : List UInt8) : 32 ∉ a → spl a = none := by
  induction a with
  | nil => intro h; rfl
  | cons b r ih =>
    intro h
    simp at h
    simp only [spl]
    rw [if_neg (fun e => h.1 e.symm), ih h.2]
    rfl
theorem spl_cut (a r : List UInt8) : 32 ∉ a → spl (a ++ 32 :: r) = some (a, r) := by
  induction a with
  | nil => intro h; simp [spl]
  | cons b t ih =>
    intro h
    simp at h
    simp only [spl, List.cons_append]
    rw [if_neg (fun e => h.1 e.symm), ih h.2]
    rfl

/-- The texts of the lines, as far as the check numbers hold. -/
def rcv (n : Int) : List (List UInt8) → List (List UInt8)
  | [] => []
  | l :: r => match spl l with
    | none => []
    | some p => if p.1 = Lib.itoa (chk n p.2) then p.2 :: rcv (chk n p.2) r else []
/-- How many bytes these lines take. -/
def rsz (n : Int) : List (List UInt8) → Nat
  | [] => 0
  | l :: r => match spl l with
    | none => 0
    | some p => if p.1 = Lib.itoa (chk n p.2) then l.length + 1 + rsz (chk n p.2) r else 0

theorem index_cases (l : List UInt8) (c : UInt8) : (c ∉ l ∧ Lib.indexByte l c = -1) ∨ ∃ a r, l = a ++ c :: r ∧ c ∉ a ∧ Lib.indexByte l c = (a.length : Int) := by
  induction l with
  | nil => exact .inl ⟨by simp, rfl⟩
  | cons b l ih =>
    simp only [Lib.indexByte]
    by_cases hb : b = c
    · subst hb
      exact .inr ⟨[], l, rfl, by simp, by simp⟩
    · have h1 : (b == c) = false := by simpa using hb
      rw [h1]
      rcases ih with ⟨h, hi⟩ | ⟨a, r, rfl, h, hi⟩
      · rw [hi]
        exact .inl ⟨by simp [h, Ne.symm hb], rfl⟩
      · refine .inr ⟨b :: a, r, rfl, by simp [h, Ne.symm hb], ?_⟩
        rw [hi]
        have : ((a.length : Int) == -1) = false := by rw [beq_eq_false_iff_ne]; omega
        rw [this]
        simp

/-- What strings.Cut returns at one byte. -/
def CutAt (c : UInt8) (l : List UInt8) (v : Value) : Prop :=
  (c ∉ l ∧ v = .tuple #[.string ⟨l.toArray⟩, .string ⟨#[]⟩, .bool false]) ∨ ∃ a r, l = a ++ c :: r ∧ c ∉ a ∧ v = .tuple #[.string ⟨a.toArray⟩, .string ⟨r.toArray⟩, .bool true]

theorem extract_left (a r : List UInt8) : (⟨(a ++ r).toArray⟩ : ByteArray).extract 0 a.length = ⟨a.toArray⟩ := by
  apply bytes_eq
  rw [Lib.extract_data]
  simp
theorem extract_right (a r : List UInt8) (n m : Nat) (hn : n = a.length) (hm : m = (a ++ r).length) : (⟨(a ++ r).toArray⟩ : ByteArray).extract n m = ⟨r.toArray⟩ := by
  subst hn hm
  apply bytes_eq
  rw [Lib.extract_data]
  simp

set_option maxHeartbeats 400000 in
theorem liteCut_any (l : List UInt8) (c : UInt8) (w : World) (hl : l.length ≤ 4000) :
    Calls Tryd.prog 45 #[.string ⟨l.toArray⟩, .string ⟨#[c]⟩] w fun e w' => (∃ v, e = .returned v ∧ CutAt c l v) ∧ ∃ d, w' = w.drewN d := by
  go_enter Tryd.func45, Tryd.ntmps45
  go_wp2_with fail
  refine (Tryd.stringslite_Index_one _ c _).mono ?_
  rintro e w1 ⟨rfl, rfl⟩
  rcases index_cases l c with ⟨h, hi⟩ | ⟨a, r, rfl, h, hi⟩
  · rw [show (⟨l.toArray⟩ : ByteArray).data.toList = l by rfl, hi]
    have H := Lib.hid h
    clear hi h
    go_wp2
    exact bodyPost_ret (v := .tuple #[.string ⟨l.toArray⟩, .string ⟨#[]⟩, .bool false]) (by simp [results, Tryd.results45, go_sem]) rfl ⟨⟨_, rfl, .inl ⟨H.out, rfl⟩⟩, 0, rfl⟩
  · rw [show (⟨(a ++ c :: r).toArray⟩ : ByteArray).data.toList = a ++ c :: r by simp, hi]
    have H := Lib.hid h
    simp at hl
    clear hi h
    go_wp2
    go_quiet (fail)
    go_wp2
    exact bodyPost_ret (v := .tuple #[.string ⟨a.toArray⟩, .string ⟨r.toArray⟩, .bool true]) (by
      simp [results, Tryd.results45, go_sem]
      refine ⟨extract_left a (c :: r), ?_⟩
      have h := extract_right (a ++ [c]) r (a.length + 1) (a.length + (r.length + 1)) (by simp) (by simp)
      simpa using h) rfl ⟨⟨_, rfl, .inr ⟨a, r, rfl, H.out, rfl⟩⟩, _, rfl⟩

set_option maxHeartbeats 400000 in
theorem cut_line (l : List UInt8) (c : UInt8) (w : World) (hl : l.length ≤ 4000) :
    Calls Tryd.prog 28 #[.string ⟨l.toArray⟩, .string ⟨#[c]⟩] w fun e w' => (∃ v, e = .returned v ∧ CutAt c l v) ∧ ∃ d, w' = w.drewN d := by
  go_enter Tryd.func28, Tryd.ntmps28
  go_wp2_with fail
  refine (liteCut_any l c _ hl).mono ?_
  rintro e w1 ⟨⟨v, rfl, hv⟩, d, rfl⟩
  rcases hv with ⟨h, rfl⟩ | ⟨a, r, rfl, h, rfl⟩
  · have H := Lib.hid h
    clear h
    go_wp2
    exact bodyPost_ret (v := .tuple #[.string ⟨l.toArray⟩, .string ⟨#[]⟩, .bool false]) (by simp [results, Tryd.results28, go_sem]) rfl ⟨⟨_, rfl, .inl ⟨H.out, rfl⟩⟩, d, rfl⟩
  · have H := Lib.hid h
    clear h
    go_wp2
    exact bodyPost_ret (v := .tuple #[.string ⟨a.toArray⟩, .string ⟨r.toArray⟩, .bool true]) (by simp [results, Tryd.results28, go_sem]) rfl ⟨⟨_, rfl, .inr ⟨a, r, rfl, H.out, rfl⟩⟩, d, rfl⟩

end Go.Proofs.YthmjcjoecelnmaaDoor
