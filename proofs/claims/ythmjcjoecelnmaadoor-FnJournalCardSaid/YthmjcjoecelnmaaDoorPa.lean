/-
  The plain law of the journal: what is recovered of a text, of a beginning of a journal, and of a text with a common beginning. No program in sight, no condition beyond those typed.
-/
import Derived.Test.YthmjcjoecelnmaaDoorJb
namespace Go.Proofs.YthmjcjoecelnmaaDoor
set_option linter.unusedVariables false

/-- Lines with their newlines. -/
def unl : List (List UInt8) → List UInt8
  | [] => []
  | a :: r => a ++ 10 :: unl r

theorem lns_unl (l : List UInt8) : ∀ acc, ∃ rest, acc ++ l = unl (lns acc l) ++ rest := by
  induction l with
  | nil => intro acc; exact ⟨acc, by simp [lns, unl]⟩
  | cons b r ih =>
    intro acc
    simp only [lns]
    split
    · rename_i h
      obtain ⟨rest, hr⟩ := ih []
      subst h
      refine ⟨rest, ?_⟩
      simp only [unl, List.append_assoc, List.cons_append]
      rw [← hr]
      simp
    · obtain ⟨rest, hr⟩ := ih (acc ++ [b])
      exact ⟨rest, by rw [← hr]; simp⟩

theorem lns_clean (l : List UInt8) : ∀ acc, 10 ∉ acc → ∀ a ∈ lns acc l, (10 : UInt8) ∉ a := by
  induction l with
  | nil => intro acc h a ha; simp [lns] at ha
  | cons b r ih =>
    intro acc h a ha
    simp only [lns] at ha
    split at ha
    · simp only [List.mem_cons] at ha
      rcases ha with rfl | ha
      · exact h
      · exact ih [] (by simp) a ha
    · rename_i hb
      exact ih (acc ++ [b]) (by simp [h, Ne.symm hb]) a ha

theorem spl_some (a : List UInt8) : ∀ p, spl a = some p → a = p.1 ++ 32 :: p.2 := by
  induction a with
  | nil => intro p h; simp [spl] at h
  | cons b r ih =>
    intro p h
    simp only [spl] at h
    split at h
    · rename_i hb
      injection h with h
      subst h hb
      rfl
    · cases hr : spl r with
      | none => rw [hr] at h; simp at h
      | some q =>
        rw [hr] at h
        simp only [Option.map_some, Option.some.injEq] at h
        subst h
        simp only [List.cons_append]
        rw [← ih q hr]

theorem rsz_unl (ls : List (List UInt8)) : ∀ n, rsz n ls ≤ (unl ls).length := by
  induction ls with
  | nil => intro n; simp [rsz]
  | cons a r ih =>
    intro n
    simp only [rsz, unl]
    split
    · omega
    · split
      · rename_i p h _
        have := ih (chk n p.2)
        simp; omega
      · omega

theorem jr_rcv (ls : List (List UInt8)) : ∀ n, jr n (rcv n ls) = (unl ls).take (rsz n ls) := by
  induction ls with
  | nil => intro n; simp [rcv, jr, rsz]
  | cons a r ih =>
    intro n
    simp only [rcv, rsz, unl]
    split
    · simp [jr]
    · rename_i p h
      split
      · rename_i hp
        simp only [jr]
        rw [ih (chk n p.2)]
        have ha := spl_some a p h
        have e : jl (chk n p.2) p.2 = a ++ [10] := by
          conv => rhs; rw [ha]
          simp [jl, hp]
        rw [e]
        have e2 : a ++ 10 :: unl r = (a ++ [10]) ++ unl r := by simp
        have e3 : (a ++ [10]).take (a.length + 1 + rsz (chk n p.2) r) = a ++ [10] := List.take_of_length_le (by rw [List.length_append, List.length_singleton]; omega)
        have e4 : a.length + 1 + rsz (chk n p.2) r - (a ++ [10]).length = rsz (chk n p.2) r := by rw [List.length_append, List.length_singleton]; omega
        rw [e2, List.take_append, e3, e4]
      · simp [jr]

/-- What is recovered is the journal of a beginning. -/
theorem jr_texts (l : List UInt8) : jr 0 (texts l) = l.take (taken l) := by
  unfold texts taken
  rw [jr_rcv]
  obtain ⟨rest, h⟩ := lns_unl l []
  rw [List.nil_append] at h
  have h2 := congrArg (List.take (rsz 0 (lns [] l))) h
  rw [h2, List.take_append_of_le_length (rsz_unl _ _)]

theorem taken_le (l : List UInt8) : taken l ≤ l.length := by
  obtain ⟨rest, h⟩ := lns_unl l []
  rw [List.nil_append] at h
  have h1 := rsz_unl (lns [] l) 0
  have h2 := congrArg List.length h
  simp only [List.length_append] at h2
  unfold taken
  omega

theorem rcv_clean (ls : List (List UInt8)) : ∀ n, (∀ a ∈ ls, (10 : UInt8) ∉ a) → ∀ a ∈ rcv n ls, (10 : UInt8) ∉ a := by
  induction ls with
  | nil => intro n h a ha; simp [rcv] at ha
  | cons b r ih =>
    intro n h a ha
    simp only [rcv] at ha
    split at ha
    · simp at ha
    · rename_i p hp
      split at ha
      · simp only [List.mem_cons] at ha
        rcases ha with rfl | ha
        · have hb := h b (by simp)
          rw [spl_some b p hp] at hb
          simp at hb
          exact hb.2
        · exact ih _ (fun x hx => h x (by simp [hx])) a ha
      · simp at ha

theorem jok_texts (l : List UInt8) (h : l.length ≤ 4000) : JOk (texts l) := by
  refine ⟨rcv_clean _ _ (lns_clean l [] (by simp)), ?_⟩
  rw [jr_texts, List.length_take]
  omega

/-- No space in a numeral. -/
theorem dec_clean (n : Nat) : ∀ c ∈ Lib.decDigits n, 48 ≤ c.toNat ∧ c.toNat ≤ 57 := by
  induction n using Nat.strongRecOn with
  | _ n ih =>
    intro c hc
    have one : ∀ k, k < 10 → 48 ≤ (UInt8.ofNat (48 + k)).toNat ∧ (UInt8.ofNat (48 + k)).toNat ≤ 57 := fun k hk => by
      simp; omega
    by_cases h : n < 10
    · rw [Lib.decDigits_one h] at hc
      simp only [List.mem_singleton] at hc
      subst hc
      exact one n h
    · rw [dec_step n (by omega)] at hc
      rcases List.mem_append.1 hc with hc | hc
      · exact ih (n / 10) (by omega) c hc
      · simp only [List.mem_singleton] at hc
        subst hc
        exact one (n % 10) (by omega)

theorem itoa_clean (x : Int) (h0 : 0 ≤ x) : (32 : UInt8) ∉ Lib.itoa x ∧ (10 : UInt8) ∉ Lib.itoa x := by
  have e : Lib.itoa x = Lib.decDigits x.toNat := by
    unfold Lib.itoa
    rw [if_neg (by omega)]
  rw [e]
  exact ⟨fun h => by have := (dec_clean _ _ h).1; simp at this, fun h => by have := (dec_clean _ _ h).1; simp at this⟩

/-- Of a beginning of a journal its whole lines are recovered. -/
theorem prefix_one (L : List (List UInt8)) : ∀ c n, 0 ≤ c → c < 9973 → (∀ a ∈ L, (10 : UInt8) ∉ a) → ∃ k, k ≤ L.length ∧ rcv c (lns [] ((jr c L).take n)) = L.take k ∧ ((jr c L).take n).count 10 = k := by
  induction L with
  | nil => intro c n _ _ _; exact ⟨0, by simp, by simp [jr, lns, rcv], by simp [jr]⟩
  | cons a r ih =>
    intro c n h0 h1 hc
    obtain ⟨c0, c1⟩ := chk_range a c h0 h1
    obtain ⟨i32, i10⟩ := itoa_clean (chk c a) c0
    have ha : (10 : UInt8) ∉ a := hc a (by simp)
    obtain ⟨B, hB⟩ : ∃ B, B = Lib.itoa (chk c a) ++ 32 :: a := ⟨_, rfl⟩
    have hB10 : (10 : UInt8) ∉ B := by rw [hB]; simp [i10, ha]
    have e : jr c (a :: r) = B ++ 10 :: jr (chk c a) r := by rw [hB]; simp [jr, jl]
    by_cases hn : n ≤ B.length
    · refine ⟨0, Nat.zero_le _, ?_, ?_⟩
      · rw [e, List.take_append_of_le_length hn, lns_none _ _ (fun h => hB10 (List.mem_of_mem_take h))]
        simp [rcv]
      · rw [e, List.take_append_of_le_length hn]
        exact List.count_eq_zero.2 (fun h => hB10 (List.mem_of_mem_take h))
    · obtain ⟨n', rfl⟩ : ∃ n', n = B.length + 1 + n' := ⟨n - B.length - 1, by omega⟩
      obtain ⟨k, hk, hr, hcnt⟩ := ih (chk c a) n' c0 c1 (fun x hx => hc x (by simp [hx]))
      have et : (jr c (a :: r)).take (B.length + 1 + n') = B ++ 10 :: (jr (chk c a) r).take n' := by
        rw [e, List.take_append, List.take_of_length_le (by omega)]
        rw [show B.length + 1 + n' - B.length = n' + 1 by omega, List.take_succ_cons]
      refine ⟨k + 1, by simp; omega, ?_, ?_⟩
      · rw [et, lns_cut _ _ _ hB10]
        simp only [rcv, List.nil_append]
        rw [hB, spl_cut _ _ i32]
        simp only [if_true]
        rw [hr]
        rfl
      · rw [et, List.count_append, List.count_eq_zero.2 hB10, List.count_cons_self, hcnt]
        omega

theorem lns_append (l s : List UInt8) : ∀ acc, ∃ acc', lns acc (l ++ s) = lns acc l ++ lns acc' s := by
  induction l with
  | nil => intro acc; exact ⟨acc, by simp [lns]⟩
  | cons b r ih =>
    intro acc
    simp only [lns, List.cons_append]
    split
    · obtain ⟨a', h⟩ := ih []
      exact ⟨a', by rw [h]; rfl⟩
    · exact ih (acc ++ [b])

theorem rsz_append (A B : List (List UInt8)) : ∀ n, rsz n A ≤ rsz n (A ++ B) := by
  induction A with
  | nil => intro n; simp [rsz]
  | cons a r ih =>
    intro n
    simp only [rsz, List.cons_append]
    split
    · exact Nat.le_refl _
    · split
      · rename_i p _ _
        have := ih (chk n p.2)
        omega
      · exact Nat.le_refl _

theorem taken_mono (l s : List UInt8) : taken l ≤ taken (l ++ s) := by
  unfold taken
  obtain ⟨a', h⟩ := lns_append l s []
  rw [h]
  exact rsz_append _ _ _

end Go.Proofs.YthmjcjoecelnmaaDoor
