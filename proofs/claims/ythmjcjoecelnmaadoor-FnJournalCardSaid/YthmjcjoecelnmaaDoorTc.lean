/-
  l11Set by its contract: a desk's names and sequences stay as many as each other.
-/
import Derived.Test.YthmjcjoecelnmaaDoorTb
import Derived.Test.YthmjcjoecelnmaaDoorRe
import Derived.Deep.RegionHeld3
import Derived.Laws.AppendOwnNone
namespace Go.Proofs.YthmjcjoecelnmaaDoor
open Go.RowKit
set_option linter.unusedVariables false

theorem Tryd.info84 : (Tryd.prog.info? 84).map (fun i => (i.zero, i.size, i.bytes)) = some (some (.agg #[.slice none 0 0, .slice none 0 0]), 2, 48) := by kernel_rfl

/-- What an append takes: nothing, or cells at an address. -/
def SrcOf (w : World) (size : Nat) (x : Value) (m : Nat) (news : List Value) : Prop :=
  (x = .slice none 0 0 ∧ m = 0 ∧ news = []) ∨ (∃ ad c, x = .slice (some ad) m c ∧ news.length = m * size ∧ (∀ j u, news[j]? = some u → w.cell? (ad.add j) = some u) ∧ ∀ u ∈ news, u.oneCell' = true)

theorem grown_refl (w : World) (r : Option Nat) : w.grownBy w r := ⟨rfl, rfl, rfl, Nat.le_refl _, fun _ _ _ => rfl⟩

theorem wp_append_src {P : Program} {w : World} {o : Oper} {a : Act} {K : Act → World → Prop} {Q : Exit → Act → World → Prop} (s x : Operand) (t : TypeId)
    (ho : o.op = .call { callee := .builtin .append, args := #[s, x], argTypes := #[t, t] })
    (base : Nat) (e : TypeId) (i : TypeInfo) (z : Value) (size bytes : Nat) (ht : P.underlying t = some (.slice e)) (hi : P.info? e = some i) (hz : i.zero = some z)
    (hsize : i.size = size) (hby : i.bytes = bytes) (hzs : z.cells.size = size) (hsz : 0 < size)
    (v : Value) (n : Nat) (xs : List Value) (hs : a.eval s = v) (hown : w.ownsRow base e size v n xs)
    (xv : Value) (m : Nat) (news : List Value) (hx : a.eval x = xv) (hsrc : SrcOf w size xv m news)
    (h63 : n + m ≤ maxLen) (hbytes : (n + m) * bytes ≤ 140737488355328) (hbase : base ≤ w.heap.size)
    (h : ∀ v' w', w'.ownsRow base e size v' (n + m) (xs ++ news) → w.grownBy w' v.ownBlock → K (a.put o.dst v') w') : o.wp P a w K Q := by
  rcases hsrc with ⟨rfl, rfl, rfl⟩ | ⟨ad, c, rfl, hl, hnews, h1⟩
  · have hrun := run_append_owned_none (P := P) (w := w) base t o.type e i size ht hi v n xs hown
    unfold Oper.wp
    simp [execOp, ho, resolve, invoke, builtin, hs, hx, hrun, Result.andThen]
    exact h v w (by simpa using hown) (grown_refl _ _)
  · exact wp_append_own w s x t ho base e i z size bytes ht hi hz hsize hby hzs hsz v n xs hs hown ad m c news hx hl hnews h1 h63 hbytes hbase fun v' w' h2 h3 _ => h v' w' h2 h3

theorem wpList_append_src {P : Program} {w : World} {ops : Array Oper} {rest : List Oper} {o : Oper} {a : Act} {Q : Exit → Act → World → Prop} (hgd : o.guard = none) (s x : Operand) (t : TypeId)
    (ho : o.op = .call { callee := .builtin .append, args := #[s, x], argTypes := #[t, t] })
    (base : Nat) (e : TypeId) (i : TypeInfo) (z : Value) (size bytes : Nat) (ht : P.underlying t = some (.slice e)) (hi : P.info? e = some i) (hz : i.zero = some z)
    (hsize : i.size = size) (hby : i.bytes = bytes) (hzs : z.cells.size = size) (hsz : 0 < size)
    (v : Value) (n : Nat) (xs : List Value) (hs : a.eval s = v) (hown : w.ownsRow base e size v n xs)
    (xv : Value) (m : Nat) (news : List Value) (hx : a.eval x = xv) (hsrc : SrcOf w size xv m news)
    (h63 : n + m ≤ maxLen) (hbytes : (n + m) * bytes ≤ 140737488355328) (hbase : base ≤ w.heap.size)
    (h : ∀ v' w', w'.ownsRow base e size v' (n + m) (xs ++ news) → w.grownBy w' v.ownBlock → wpList P ops Q rest (a.put o.dst v') w') : wpList P ops Q (o :: rest) a w :=
  wpList_plain hgd fun _ hK => wp_append_src s x t ho base e i z size bytes ht hi hz hsize hby hzs hsz v n xs hs hown xv m news hx hsrc h63 hbytes hbase fun v' w' h2 h3 => hK _ _ (h v' w' h2 h3)

theorem step_append_src {P : Program} {w : World} {ops : Array Oper} {o : Oper} {a : Act} {K : Act → World → Prop} {Q : Exit → Act → World → Prop} {E : Prop} (hgd : o.guard = none) (s x : Operand) (t : TypeId)
    (ho : o.op = .call { callee := .builtin .append, args := #[s, x], argTypes := #[t, t] })
    (base : Nat) (e : TypeId) (i : TypeInfo) (z : Value) (size bytes : Nat) (ht : P.underlying t = some (.slice e)) (hi : P.info? e = some i) (hz : i.zero = some z)
    (hsize : i.size = size) (hby : i.bytes = bytes) (hzs : z.cells.size = size) (hsz : 0 < size)
    (v : Value) (n : Nat) (xs : List Value) (hs : a.eval s = v) (hown : w.ownsRow base e size v n xs)
    (xv : Value) (m : Nat) (news : List Value) (hx : a.eval x = xv) (hsrc : SrcOf w size xv m news)
    (h63 : n + m ≤ maxLen) (hbytes : (n + m) * bytes ≤ 140737488355328) (hbase : base ≤ w.heap.size)
    (h : ∀ v' w', w'.ownsRow base e size v' (n + m) (xs ++ news) → w.grownBy w' v.ownBlock → K (a.put o.dst v') w') :
    if Region.wanted o (yielded ops a.tmps) = true then Oper.wp P o a w K Q else E := by
  have hw : Region.wanted o (yielded ops a.tmps) = true := by simp [Region.wanted, hgd]
  rw [if_pos hw]
  exact wp_append_src s x t ho base e i z size bytes ht hi hz hsize hby hzs hsz v n xs hs hown xv m news hx hsrc h63 hbytes hbase h

/-- A desk in its block: names, and as many sequences. -/
structure DeskAt (lo D : Nat) (L : List (List UInt8)) (w : World) : Prop where
  lo_ : lo ≤ D
  at_ : ∃ nv bv xs, w.heap[D]? = some (.cells #[nv, bv] 39 (0, 0)) ∧ w.ownsRow lo 9 1 nv L.length (L.map sv) ∧ w.ownsRow lo 84 2 bv L.length xs ∧ (∀ u ∈ xs, u.oneCell' = true) ∧ (L = [] → nv = .slice none 0 0 ∧ bv = .slice none 0 0)

/-- A row of another type than the block that is written stays. -/
theorem own_other {w : World} {base g j : Nat} {e e' : TypeId} {size n : Nat} {v u : Value} {xs : List Value} {cur : Array Value} (h : w.ownsRow base e size v n xs) (hg : w.heap[g]? = some (.cells cur e' (0, 0))) (hne : e ≠ e') : (w.setCell ⟨g, j, none⟩ u).ownsRow base e size v n xs := by
  refine ⟨h.1, ?_⟩
  rcases h.2 with h2 | ⟨g', cap, cur', hv, hb, hg', hr⟩
  · exact .inl h2
  · refine .inr ⟨g', cap, cur', hv, hb, ?_, hr⟩
    rw [Below.heap_setCell _ _ _ _ (show g' ≠ g from fun h => by
      subst h
      rw [hg] at hg'
      simp at hg'
      exact hne hg'.2.symm)]
    exact hg'

theorem own_drew {w : World} {base : Nat} {e : TypeId} {size n : Nat} {v : Value} {xs : List Value} (h : w.ownsRow base e size v n xs) : w.drew.ownsRow base e size v n xs := h

theorem own_block {w : World} {base g n cap : Nat} {e : TypeId} {size : Nat} {xs : List Value} (h : w.ownsRow base e size (.slice (some ⟨g, 0, none⟩) n cap) n xs) : base ≤ g ∧ ∃ cur, w.heap[g]? = some (.cells cur e (0, 0)) := by
  rcases h.2 with ⟨h, _⟩ | ⟨g', cap', cur, h, hb, hh, _⟩
  · cases h
  · simp only [Value.slice.injEq, Option.some.injEq, Addr.mk.injEq, and_true, true_and] at h
    obtain ⟨rfl, rfl⟩ := h
    exact ⟨hb, cur, hh⟩

/-- Two cells of a sequences' row are written. -/
theorem desk_put {lo D g cb i j : Nat} {L : List (List UInt8)} {w : World} {nv u u' : Value} {xs : List Value} (hlo : lo ≤ D) (hD : w.heap[D]? = some (.cells #[nv, .slice (some ⟨g, 0, none⟩) L.length cb] 39 (0, 0)))
    (hn : w.ownsRow lo 9 1 nv L.length (L.map sv)) (hb : w.ownsRow lo 84 2 (.slice (some ⟨g, 0, none⟩) L.length cb) L.length xs) (ho : ∀ u ∈ xs, u.oneCell' = true) (hu : u.oneCell' = true) (hu' : u'.oneCell' = true) (hL : L ≠ []) :
    DeskAt lo D L ((w.setCell ⟨g, i, none⟩ u).setCell ⟨g, j, none⟩ u') ∧ Below lo w ((w.setCell ⟨g, i, none⟩ u).setCell ⟨g, j, none⟩ u') := by
  obtain ⟨hlg, cur, hg⟩ := own_block hb
  have hgD : D ≠ g := fun h => by
    subst h
    rw [hD] at hg
    simp at hg
  have h1 := (hb.stored i u).1
  have h2 := (h1.stored j u').1
  obtain ⟨_, cur1, hg1⟩ := own_block h1
  refine ⟨⟨hlo, _, _, _, ?_, own_other (own_other hn hg (by decide)) hg1 (by decide), h2, fun x hx => ?_, fun h => absurd h hL⟩, ((Below.refl _ _).setCell hlg _).setCell hlg _⟩
  · rw [Below.heap_setCell _ _ _ _ hgD, Below.heap_setCell _ _ _ _ hgD]
    exact hD
  · rcases List.mem_or_eq_of_mem_set hx with hx | rfl
    · rcases List.mem_or_eq_of_mem_set hx with hx | rfl
      · exact ho x hx
      · exact hu
    · exact hu'

theorem desk_drew {lo D : Nat} {L : List (List UInt8)} {w : World} (h : DeskAt lo D L w) : DeskAt lo D L w.drew := by
  obtain ⟨h1, nv, bv, xs, h2, h3, h4, h5, h6⟩ := h
  exact ⟨h1, nv, bv, xs, h2, h3, h4, h5, h6⟩

/-- The first k elements of a row, as what is appended. -/
theorem src_take {w : World} {base g n cb c k : Nat} {e : TypeId} {size : Nat} {xs : List Value} (h : w.ownsRow base e size (.slice (some ⟨g, 0, none⟩) n cb) n xs) (hk : k ≤ n) (ho : ∀ u ∈ xs, u.oneCell' = true) :
    SrcOf w size (.slice (some ⟨g, 0, none⟩) k c) k (xs.take (k * size)) := by
  have hx : xs.length = n * size := h.1
  have hks : k * size ≤ n * size := Nat.mul_le_mul_right _ hk
  refine .inr ⟨_, _, rfl, by rw [List.length_take]; omega, fun j u hj => ?_, fun u hu => ho u (List.mem_of_mem_take hu)⟩
  have hjl : j < (xs.take (k * size)).length := (List.getElem?_eq_some_iff.1 hj).1
  rw [List.length_take] at hjl
  have e1 : (⟨g, 0, none⟩ : Addr).add j = ⟨g, j, none⟩ := by unfold Addr.add; split <;> simp_all
  rw [e1, h.cellAt j (by omega), ← hj, List.getElem?_take, if_pos (by omega)]

/-- The elements from k on. -/
theorem src_drop {w : World} {base g n cb c k : Nat} {e : TypeId} {size : Nat} {xs : List Value} (h : w.ownsRow base e size (.slice (some ⟨g, 0, none⟩) n cb) n xs) (hk : k ≤ n) (ho : ∀ u ∈ xs, u.oneCell' = true) :
    SrcOf w size (.slice (some ⟨g, k * size, none⟩) (n - k) c) (n - k) (xs.drop (k * size)) := by
  have hx : xs.length = n * size := h.1
  have hks : k * size ≤ n * size := Nat.mul_le_mul_right _ hk
  refine .inr ⟨_, _, rfl, by rw [List.length_drop, Nat.sub_mul]; omega, fun j u hj => ?_, fun u hu => ho u (List.mem_of_mem_drop hu)⟩
  rw [List.getElem?_drop] at hj
  have hjl := (List.getElem?_eq_some_iff.1 hj).1
  have e1 : (⟨g, k * size, none⟩ : Addr).add j = ⟨g, k * size + j, none⟩ := by unfold Addr.add; split <;> simp_all
  rw [e1, h.cellAt (k * size + j) (by omega), hj]

theorem src_take1 {w : World} {base g n cb c k : Nat} {e : TypeId} {xs : List Value} (h : w.ownsRow base e 1 (.slice (some ⟨g, 0, none⟩) n cb) n xs) (hk : k ≤ n) (ho : ∀ u ∈ xs, u.oneCell' = true) :
    SrcOf w 1 (.slice (some ⟨g, 0, none⟩) k c) k (xs.take k) := by
  have := src_take (c := c) h hk ho
  rwa [Nat.mul_one] at this
theorem src_drop1 {w : World} {base g n cb c k : Nat} {e : TypeId} {xs : List Value} (h : w.ownsRow base e 1 (.slice (some ⟨g, 0, none⟩) n cb) n xs) (hk : k ≤ n) (ho : ∀ u ∈ xs, u.oneCell' = true) :
    SrcOf w 1 (.slice (some ⟨g, k, none⟩) (n - k) c) (n - k) (xs.drop k) := by
  have := src_drop (c := c) h hk ho
  rwa [Nat.mul_one] at this

theorem src_void (w : World) (size : Nat) (ad : Addr) (c : Nat) : SrcOf w size (.slice (some ad) 0 c) 0 [] :=
  .inr ⟨_, _, rfl, by simp, fun j u hj => by simp at hj, fun u hu => by cases hu⟩

/-- A new block, as what is appended. -/
theorem src_new (w : World) (cs : List Value) (t : TypeId) (size m c : Nat) (hl : cs.length = m * size) (ho : ∀ u ∈ cs, u.oneCell' = true) : SrcOf (w.alloc (.cells cs.toArray t)) size (.slice (some ⟨w.heap.size, 0, none⟩) m c) m cs := by
  refine .inr ⟨_, _, rfl, hl, fun j u hj => ?_, ho⟩
  have e1 : (⟨w.heap.size, 0, none⟩ : Addr).add j = ⟨w.heap.size, j, none⟩ := by unfold Addr.add; split <;> simp_all
  rw [e1]
  simp [go_sem, hj]

theorem src_drew {w : World} {size : Nat} {x : Value} {m : Nat} {news : List Value} (h : SrcOf w size x m news) : SrcOf w.drew size x m news := by
  rcases h with h | ⟨ad, c, h1, h2, h3, h4⟩
  · exact .inl h
  · exact .inr ⟨ad, c, h1, h2, fun j u hj => h3 j u hj, h4⟩
theorem src_grown {w w' : World} {size m c B : Nat} {news : List Value} {r : Option Nat} (h : SrcOf w size (.slice (some ⟨B, 0, none⟩) m c) m news) (hg : w.grownBy w' r) (hB : B < w.heap.size) (hn : some B ≠ r) : SrcOf w' size (.slice (some ⟨B, 0, none⟩) m c) m news := by
  rcases h with ⟨h, _⟩ | ⟨ad, c', h1, h2, h3, h4⟩
  · cases h
  · simp only [Value.slice.injEq, Option.some.injEq, true_and] at h1
    obtain ⟨rfl, rfl⟩ := h1
    refine .inr ⟨_, _, rfl, h2, fun j u hj => ?_, h4⟩
    rw [← h3 j u hj]
    have e1 : (⟨B, 0, none⟩ : Addr).add j = ⟨B, j, none⟩ := by unfold Addr.add; split <;> simp_all
    rw [e1]
    exact World.cell?_of_block (hg.block B hB hn)
theorem grown_alloc (w : World) (o : Obj) (r : Option Nat) : w.grownBy (w.alloc o) r :=
  have h : Below w.heap.size w (w.alloc o) := (Below.refl _ _).alloc (Nat.le_refl _) _
  ⟨h.os, h.tape, h.output, h.size, fun k hk _ => h.block k hk⟩

theorem src_empty {w : World} {size : Nat} {ad : Addr} {m c : Nat} {news : List Value} (hm : m = 0) (hn : news = []) : SrcOf w size (.slice (some ad) m c) m news := by
  subst hm hn
  exact src_void w size ad c

theorem own_form {w : World} {base n : Nat} {e : TypeId} {size : Nat} {v : Value} {xs : List Value} (h : w.ownsRow base e size v n xs) : ∃ ao cap, v = .slice ao n cap := by
  rcases h.2 with ⟨h, h0⟩ | ⟨g, cap, cur, h, _⟩
  · exact ⟨none, 0, by rw [h, h0]⟩
  · exact ⟨_, cap, h⟩

/-- A row stays while another type's row is appended to. -/
theorem own_grown_other {w w' : World} {base base' n n' : Nat} {e e' : TypeId} {size size' : Nat} {v v' : Value} {xs xs' : List Value} (h : w.ownsRow base e size v n xs) (h' : w.ownsRow base' e' size' v' n' xs') (hne : e ≠ e') (hg : w.grownBy w' v'.ownBlock) : w'.ownsRow base e size v n xs := by
  refine ⟨h.1, ?_⟩
  rcases h.2 with h2 | ⟨g, cap, cur, hv, hb, hgr, hr⟩
  · exact .inl h2
  · refine .inr ⟨g, cap, cur, hv, hb, ?_, hr⟩
    rw [hg.block g (Array.getElem?_eq_some_iff.1 hgr).1 (fun h3 => by
      rcases h'.2 with ⟨h4, _⟩ | ⟨g', cap', cur', h4, _, hgr', _⟩
      · rw [h4] at h3
        simp [Value.ownBlock] at h3
      · rw [h4] at h3
        simp only [Value.ownBlock, Option.some.injEq] at h3
        subst h3
        rw [hgr'] at hgr
        simp at hgr
        exact hne hgr.2.symm)]
    exact hgr

theorem heap_put0 {w : World} {D : Nat} {x y u : Value} (h : w.heap[D]? = some (.cells #[x, y] 39 (0, 0))) : (w.setCell ⟨D, 0, none⟩ u).heap[D]? = some (.cells #[u, y] 39 (0, 0)) :=
  heap_setCell_same w D 0 _ 39 u h
theorem heap_put1 {w : World} {D : Nat} {x y u : Value} (h : w.heap[D]? = some (.cells #[x, y] 39 (0, 0))) : (w.setCell ⟨D, 1, none⟩ u).heap[D]? = some (.cells #[x, u] 39 (0, 0)) :=
  heap_setCell_same w D 1 _ 39 u h

/-- The desk behind both stores. -/
theorem desk_end {lo b1 D k N : Nat} {L : List (List UInt8)} {a : List UInt8} {w6 w8 : World} {nv bv v6 v5 v8 : Value} {names xs5 xs8 : List Value} {n5 : Nat} (hlo : lo ≤ D) (hb : lo ≤ b1) (hDl : D < b1)
    (hD : w6.heap[D]? = some (.cells #[nv, bv] 39 (0, 0))) (hn : w6.ownsRow b1 9 1 v6 N names) (h5 : w6.ownsRow b1 84 2 v5 n5 xs5) (hg : (w6.setCell ⟨D, 0, none⟩ v6).grownBy w8 v5.ownBlock) (h8 : w8.ownsRow b1 84 2 v8 N xs8)
    (hk : k ≤ L.length) (hN : N = L.length + 1) (hnm : names = (L.take k ++ a :: L.drop k).map sv) (ho : ∀ u ∈ xs8, u.oneCell' = true) :
    DeskAt lo D (L.take k ++ a :: L.drop k) (w8.setCell ⟨D, 1, none⟩ v8) ∧ Below lo w6 (w8.setCell ⟨D, 1, none⟩ v8) := by
  have hD7 := heap_put0 (u := v6) hD
  have h57 : (w6.setCell ⟨D, 0, none⟩ v6).ownsRow b1 84 2 v5 n5 xs5 := own_other h5 hD (by decide)
  have hn7 : (w6.setCell ⟨D, 0, none⟩ v6).ownsRow b1 9 1 v6 N names := own_other hn hD (by decide)
  have hn8 := own_grown_other hn7 h57 (by decide) hg
  have hDs : D < (w6.setCell ⟨D, 0, none⟩ v6).heap.size := (Array.getElem?_eq_some_iff.1 hD7).1
  have hD8 : w8.heap[D]? = some (.cells #[v6, bv] 39 (0, 0)) := (hg.block D hDs (fun h3 => by
    have := (h57.lt D h3.symm).1
    omega)).trans hD7
  have hlen : (L.take k ++ a :: L.drop k).length = N := by
    rw [List.length_append, List.length_cons, List.length_take, List.length_drop]
    omega
  refine ⟨⟨hlo, _, _, xs8, heap_put1 hD8, ?_, ?_, ho, fun h => by simp at h⟩, ?_⟩
  · rw [hlen, ← hnm]
    exact own_low (own_other hn8 hD8 (by decide)) hb
  · rw [hlen]
    exact own_low (own_other h8 hD8 (by decide)) hb
  · have h67 : Below lo w6 (w6.setCell ⟨D, 0, none⟩ v6) := (Below.refl _ _).setCell hlo _
    exact (h67.grown hg (by
      have := (Array.getElem?_eq_some_iff.1 hD7).1
      omega) (fun k hk => by have := (h57.lt k hk).1; omega)).setCell hlo _

theorem ones8 {xs : List Value} {i : Nat} {x y : Value} (h : ∀ u ∈ xs, u.oneCell' = true) (hx : x.oneCell' = true) (hy : y.oneCell' = true) : ∀ u ∈ xs.take i ++ x :: y :: xs.drop i, u.oneCell' = true := fun u hu => by
  simp only [List.mem_append, List.mem_cons] at hu
  rcases hu with hu | rfl | rfl | hu
  · exact h u (List.mem_of_mem_take hu)
  · exact hx
  · exact hy
  · exact h u (List.mem_of_mem_drop hu)

theorem names_eq (L : List (List UInt8)) (k : Nat) (a : List UInt8) : List.take k (List.map sv L) ++ Value.string ⟨a.toArray⟩ :: List.drop k (List.map sv L) = (L.take k ++ a :: L.drop k).map sv := by
  rw [List.map_append, List.map_cons, List.map_take, List.map_drop]
  rfl

theorem names_mem (L : List (List UInt8)) (k : Nat) (a : List UInt8) : ∀ x ∈ L.take k ++ a :: L.drop k, x ∈ a :: L := fun x hx => by
  simp only [List.mem_append, List.mem_cons] at hx
  rcases hx with hx | rfl | hx
  · exact List.mem_cons_of_mem _ (List.mem_of_mem_take hx)
  · exact List.mem_cons_self
  · exact List.mem_cons_of_mem _ (List.mem_of_mem_drop hx)

theorem sv_one (L : List (List UInt8)) : ∀ u ∈ L.map sv, u.oneCell' = true := fun u hu => by
  obtain ⟨x, _, rfl⟩ := List.mem_map.1 hu
  rfl

set_option maxRecDepth 100000 in
set_option maxHeartbeats 2000000 in
theorem set_any (lo D : Nat) (L : List (List UInt8)) (a : List UInt8) (ro qo : Option Addr) (rn rc qn qc : Nat) (w : World) (hd : DeskAt lo D L w) (hn : L.length < 6) (ha : a.length ≤ 8) :
    Calls Tryd.prog 54 #[.pointer (some ⟨D, 0, none⟩), .string ⟨a.toArray⟩, .agg #[.slice ro rn rc, .slice qo qn qc]] w fun e w' => YesNo e ∧ Below lo w w' ∧ ∃ L', DeskAt lo D L' w' ∧ L'.length ≤ L.length + 1 ∧ ∀ x ∈ L', x ∈ a :: L := by
  obtain ⟨hlo, nv, bv, xs, hD, hnv, hbv, hone, hnil⟩ := hd
  obtain ⟨ao, ca, rfl, htx, hnone, hlc, hcap⟩ := txt_view hnv
  have HD := Lib.hid hD
  have HNv := Lib.hid hnv
  have HBv := Lib.hid hbv
  have HTx := Lib.hid htx
  have HOne := Lib.hid hone
  have HLo := Lib.hid hlo
  have HNil := Lib.hid hnil
  obtain ⟨i0, hi, hz0, hz1, hz2⟩ := info_parts Tryd.info9
  obtain ⟨j0, hj, hy0, hy1, hy2⟩ := info_parts Tryd.info84
  have c0 : w.cell? ⟨D, 0, none⟩ = some (.slice ao L.length ca) := (cell_of_row w D 0 _ 39 (0, 0) hD).trans rfl
  have c1 : w.cell? ⟨D, 1, none⟩ = some bv := (cell_of_row w D 1 _ 39 (0, 0) hD).trans rfl
  have hDl : D < w.heap.size := (Array.getElem?_eq_some_iff.1 hD).1
  have hb0 : Below w.heap.size w (w.alloc (.cells #[.slice ro rn rc, .slice qo qn qc] 84)) := (Below.refl _ _).alloc (Nat.le_refl _) _
  have HB0 := Lib.hid hb0
  have d0 := (hb0.cell (p := ⟨D, 0, none⟩) hDl).trans c0
  have d1 := (hb0.cell (p := ⟨D, 1, none⟩) hDl).trans c1
  have HFind := Lib.hid (find_any D ao ca L ⟨a.toArray⟩ _ d0 ((htx.keep hb0).low (Nat.zero_le _)) (by omega))
  have HName := Lib.hid (fun W => name_any (⟨a.toArray⟩ : ByteArray) W (show a.toArray.size ≤ 1000 by simp; omega))
  clear hD hnv hbv htx hone hlo hb0 c0 c1 d0 d1 hnil
  go_enter Tryd.func54, Tryd.ntmps54
  go_wp2_with fail
  refine HFind.out.mono ?_
  rintro e w1 ⟨⟨k, rfl, hk0, hk1⟩, hw1⟩
  subst hw1
  by_cases hneg : k < 0
  · obtain rfl : k = -1 := by omega
    have z0 : (w.alloc (.cells #[.slice ro rn rc, .slice qo qn qc] 84)).cell? ⟨D, 0, none⟩ = some (.slice ao L.length ca) := (HB0.out.cell (p := ⟨D, 0, none⟩) hDl).trans ((cell_of_row w D 0 _ 39 (0, 0) HD.out).trans rfl)
    go_wp2_with fail
    refine (HName.out _).mono ?_
    rintro e w2 ⟨⟨b, rfl⟩, hw2⟩
    subst hw2
    cases b
    · go_wp2
      go_ret
      exact ⟨⟨false, rfl⟩, HB0.out.mono (by have := HLo.out; omega), L, ⟨HLo.out, _, _, xs, (HB0.out.block D hDl).trans HD.out, own_keep HNv.out HB0.out, own_keep HBv.out HB0.out, HOne.out, HNil.out⟩, Nat.le_succ _, fun x hx => List.mem_cons_of_mem _ hx⟩
    · go_wp2
      generalize hW1 : w.alloc (.cells #[.slice ro rn rc, .slice qo qn qc] 84) = w1 at *
      have HW1 := Lib.hid hW1
      have hDl1 : D < w1.heap.size := by rw [← hW1]; simp; omega
      have hws : w.heap.size < w1.heap.size := by rw [← hW1]; simp
      have HR : Hid (w1.cell? ⟨w.heap.size, 0, none⟩ = some (.slice ro rn rc) ∧ w1.cell? ⟨w.heap.size, 1, none⟩ = some (.slice qo qn qc)) := by
        rw [← hW1]
        exact ⟨by simp [go_sem], by simp [go_sem]⟩
      clear hW1
      have HDl := Lib.hid (And.intro hDl (And.intro hDl1 hws))
      rcases List.eq_nil_or_concat L with rfl | hL
      · obtain ⟨hnv0, hbv0⟩ := HNil.out rfl
        simp only [Value.slice.injEq] at hnv0
        obtain ⟨rfl, -, rfl⟩ := hnv0
        subst hbv0
        have HFa : Hid (∀ W, Below w1.heap.size w1 W → (W.cell? ⟨D, 1, none⟩ = some (.slice none 0 0) ∧ W.cell? ⟨w.heap.size, 0, none⟩ = some (.slice ro rn rc) ∧ W.cell? ⟨w.heap.size, 1, none⟩ = some (.slice qo qn qc))) := fun W hb =>
          ⟨(hb.cell (p := ⟨D, 1, none⟩) HDl.out.2.1).trans ((HB0.out.cell (p := ⟨D, 1, none⟩) hDl).trans ((cell_of_row w D 1 _ 39 (0, 0) HD.out).trans rfl)), (hb.cell (p := ⟨w.heap.size, 0, none⟩) HDl.out.2.2).trans HR.out.1, (hb.cell (p := ⟨w.heap.size, 1, none⟩) HDl.out.2.2).trans HR.out.2⟩
        have HS : Hid (∀ W, Below w1.heap.size w1 W → (W.cell? ⟨D, 1, none⟩ = some (.slice none 0 0) ∧ W.cell? ⟨w.heap.size, 0, none⟩ = some (.slice ro rn rc) ∧ W.cell? ⟨w.heap.size, 1, none⟩ = some (.slice qo qn qc) ∧ Below w1.heap.size w1 W)) := fun W hb => ⟨(HFa.out W hb).1, (HFa.out W hb).2.1, (HFa.out W hb).2.2, hb⟩
        have HFr : Hid (∀ W, Below w1.heap.size w1 W → (W.frozen? ⟨D, 0, none⟩ = false ∧ W.frozen? ⟨D, 1, none⟩ = false ∧ W.heap[D]? = some (.cells #[.slice none 0 0, .slice none 0 0] 39 (0, 0)))) := fun W hb => by
          have hDW : W.heap[D]? = some (.cells #[.slice none 0 0, .slice none 0 0] 39 (0, 0)) := (hb.block D HDl.out.2.1).trans ((HB0.out.block D hDl).trans HD.out)
          exact ⟨frozen_of_row W D 0 _ 39 hDW, frozen_of_row W D 1 _ 39 hDW, hDW⟩
        simp only [List.length_nil] at z0
        clear hnone hlc hcap hn hk0 hk1 HFind
        go_loop [8] (fun i => i = .int .i64 0) (fun _ => 0)
        case atStart => rfl
        case round =>
          obtain rfl := hrel
          go_upto_region 10 with fail
          go_wp2_with (first | (at_builtin; refine wpList_append_src rfl (.tmp 54) (.tmp 60) 24 rfl w1.heap.size 9 i0 (.string ⟨#[]⟩) 1 16 Tryd.underlying24 hi hz0 hz1 hz2 rfl (by decide) _ 0 [] rfl ?_ _ 0 [] rfl ?_ ?_ ?_ ?_ ?_))
          · exact World.ownsRow_made (base := w1.heap.size) (e := 9) (size := 1) w1 #[] 0 (by omega) (by simp [maxLen]) rfl
          · first | exact .inl ⟨rfl, rfl, rfl⟩ | (simp only [Act.eval, Array.getD]; go_simp; exact .inl ⟨rfl, rfl, rfl⟩)
          try any_goals (focus (first | (with_reducible exact HB5.out.size) | (show _ ≤ maxLen; unfold maxLen; omega) | (show (_ : Nat) ≤ _; omega) | (show (_ : Nat) ≤ _; simp; omega)))
          intro v1 w2 hown1 hgrow1
          have HB2 : Hid (Below w1.heap.size w1 w2) := ((Below.refl _ w1).alloc (Nat.le_refl _) _).grown hgrow1 (by simp) (fun k hk => by simp [Value.ownBlock] at hk; omega)
          have hs2 := HB2.out.size
          have HOwn1 := Lib.hid hown1
          clear hgrow1 hown1
          go_wp2_with (first | (at_builtin; refine wpList_append_src rfl (.tmp 61) (.tmp 63) 24 rfl w1.heap.size 9 i0 (.string ⟨#[]⟩) 1 16 Tryd.underlying24 hi hz0 hz1 hz2 rfl (by decide) _ _ _ rfl (HOwn1.out.alloc _) _ 1 [.string ⟨a.toArray⟩] rfl ?_ ?_ ?_ ?_ ?_))
          · exact src_new w2 [.string ⟨a.toArray⟩] 9 1 1 1 rfl (fun u hu => by simp at hu; subst hu; rfl)
          try any_goals (focus (first | (with_reducible exact HB5.out.size) | (show _ ≤ maxLen; unfold maxLen; omega) | (show (_ : Nat) ≤ _; omega) | (show (_ : Nat) ≤ _; simp; omega)))
          intro v2 w3 hown2 hgrow2
          have HB3 : Hid (Below w1.heap.size w1 w3) := (HB2.out.alloc (by omega) _).grown hgrow2 (by simp; omega) (fun k hk => (HOwn1.out.lt k hk).1)
          have hs3 := HB3.out.size
          have HOwn2 := Lib.hid hown2
          clear hgrow2 hown2
          have d1 := (HFa.out w3 HB3.out).1
          have t0 := (HFa.out w3 HB3.out).2.1
          have t1 := (HFa.out w3 HB3.out).2.2
          have h3r : w3.heap.size ≤ (w3.alloc (.cells #[.slice ro rn rc, .slice qo qn qc] 84)).heap.size := by simp
          have h3e : w3.heap.size ≤ (w3.alloc (.cells #[] 84)).heap.size := by simp
          have hsz3 : w3.heap.size < ((w3.alloc (.cells #[.slice ro rn rc, .slice qo qn qc] 84)).alloc (.cells #[] 84)).drew.heap.size := by simp; omega
          have HNew2 : Hid (SrcOf ((w3.alloc (.cells #[] 84)).alloc (.cells #[.slice ro rn rc, .slice qo qn qc] 84)) 2 (.slice (some ⟨w3.heap.size + 1, 0, none⟩) 1 1) 1 [.slice ro rn rc, .slice qo qn qc]) := by
            have h := src_new (w3.alloc (.cells #[] 84)) [.slice ro rn rc, .slice qo qn qc] 84 2 1 1 rfl (fun u hu => by simp at hu; rcases hu with rfl | rfl <;> rfl)
            simp only [World.size_alloc] at h
            exact h
          have HNew3 : Hid (SrcOf ((w3.alloc (.cells #[.slice ro rn rc, .slice qo qn qc] 84)).alloc (.cells #[] 84)) 2 (.slice (some ⟨w3.heap.size, 0, none⟩) 1 1) 1 [.slice ro rn rc, .slice qo qn qc]) :=
            src_grown (src_new w3 [.slice ro rn rc, .slice qo qn qc] 84 2 1 1 rfl (fun u hu => by simp at hu; rcases hu with rfl | rfl <;> rfl)) (grown_alloc _ (.cells #[] 84) none) (by simp) (by simp)
          have HMade3 : Hid (((w3.alloc (.cells #[.slice ro rn rc, .slice qo qn qc] 84)).alloc (.cells #[] 84)).ownsRow w3.heap.size 84 2 (.slice (some ⟨w3.heap.size + 1, 0, none⟩) 0 0) 0 []) := by
            have h := World.ownsRow_made (base := w3.heap.size) (e := 84) (size := 2) (w3.alloc (.cells #[.slice ro rn rc, .slice qo qn qc] 84)) #[] 0 h3r (by simp [maxLen]) rfl
            simp only [World.size_alloc] at h
            exact h
          go_upto_region 11 with fail
          go_region_held3 (fun w' => w'.cell? ⟨D, 1, none⟩ = some (.slice none 0 0) ∧ w'.cell? ⟨w.heap.size, 0, none⟩ = some (.slice ro rn rc) ∧ w'.cell? ⟨w.heap.size, 1, none⟩ = some (.slice qo qn qc) ∧ Below w1.heap.size w1 w') (first | exact HS.out _ (HB3.out.trans (HC5.out.mono hs3)) | exact HS.out _ (HB3.out.trans (HC4.out.mono hs3)) | exact HS.out _ (HB3.out.trans ((HC4.out.alloc hs4 (.cells #[.slice ro rn rc, .slice qo qn qc] 84)).mono hs3)) | exact HS.out _ HB3.out.drew | exact HS.out _ (HB3.out.trans (((Below.refl w3.heap.size w3).alloc (Nat.le_refl _) (.cells #[] 84)).drew.mono hs3)) | exact HS.out _ (HB3.out.trans (((Below.refl w3.heap.size w3).alloc (Nat.le_refl _) (.cells #[.slice ro rn rc, .slice qo qn qc] 84)).drew.mono hs3)) | exact HS.out _ (HB3.out.trans ((((Below.refl w3.heap.size w3).alloc (Nat.le_refl _) (.cells #[] 84)).alloc h3e (.cells #[.slice ro rn rc, .slice qo qn qc] 84)).drew.mono hs3)) | exact HS.out _ (HB3.out.trans ((((Below.refl w3.heap.size w3).alloc (Nat.le_refl _) (.cells #[.slice ro rn rc, .slice qo qn qc] 84)).alloc h3r (.cells #[] 84)).drew.mono hs3)))
            (first | (refine step_append_src rfl (.tmp 65) (.tmp 71) 37 rfl w3.heap.size 84 j0 (.agg #[.slice none 0 0, .slice none 0 0]) 2 48 Tryd.underlying37 hj hy0 hy1 hy2 rfl (by decide) (.slice (some ⟨w3.heap.size, 0, none⟩) 0 0) 0 [] rfl ?_ (.slice none 0 0) 0 [] rfl ?_ ?_ ?_ ?_ ?_; (exact own_drew (World.ownsRow_made (base := w3.heap.size) (e := 84) (size := 2) w3 #[] 0 (Nat.le_refl _) (by simp [maxLen]) rfl)); (exact .inl ⟨rfl, rfl, rfl⟩); (unfold maxLen; omega); omega; (focus (first | (simp; done) | (simp; omega))); intro v4 w4 hown4 hgrow4; simp only [Nat.zero_add, List.nil_append] at hown4; have HC4 : Hid (Below w3.heap.size w3 w4) := (((Below.refl w3.heap.size w3).alloc (Nat.le_refl _) (.cells #[] 84)).drew).grown hgrow4 (by first | (simp; done) | (simp; omega)) (fun k hk => by simp [Value.ownBlock] at hk; omega); have HOwn4 := Lib.hid hown4; have hs4 := HC4.out.size; skip; clear hown4 hgrow4) | (refine step_append_src rfl (.tmp 65) (.tmp 71) 37 rfl w3.heap.size 84 j0 (.agg #[.slice none 0 0, .slice none 0 0]) 2 48 Tryd.underlying37 hj hy0 hy1 hy2 rfl (by decide) (.slice (some ⟨w3.heap.size, 0, none⟩) 0 0) 0 [] rfl ?_ (.slice none 0 0) 0 [] rfl ?_ ?_ ?_ ?_ ?_; (exact own_drew ((World.ownsRow_made (base := w3.heap.size) (e := 84) (size := 2) w3 #[] 0 (Nat.le_refl _) (by simp [maxLen]) rfl).alloc _)); (exact .inl ⟨rfl, rfl, rfl⟩); (unfold maxLen; omega); omega; (focus (first | (simp; done) | (simp; omega))); intro v4 w4 hown4 hgrow4; simp only [Nat.zero_add, List.nil_append] at hown4; have HC4 : Hid (Below w3.heap.size w3 w4) := ((((Below.refl w3.heap.size w3).alloc (Nat.le_refl _) (.cells #[] 84)).alloc h3e (.cells #[.slice ro rn rc, .slice qo qn qc] 84)).drew).grown hgrow4 (by first | (simp; done) | (simp; omega)) (fun k hk => by simp [Value.ownBlock] at hk; omega); have HOwn4 := Lib.hid hown4; have hs4 := HC4.out.size; have HSrc4 := Lib.hid (src_grown (src_drew HNew2.out) hgrow4 (by simp) (by simp [Value.ownBlock])); clear hown4 hgrow4) | (refine step_append_src rfl (.tmp 65) (.tmp 71) 37 rfl w3.heap.size 84 j0 (.agg #[.slice none 0 0, .slice none 0 0]) 2 48 Tryd.underlying37 hj hy0 hy1 hy2 rfl (by decide) (.slice (some ⟨w3.heap.size + 1, 0, none⟩) 0 0) 0 [] rfl ?_ (.slice none 0 0) 0 [] rfl ?_ ?_ ?_ ?_ ?_; (exact own_drew (HMade3.out)); (exact .inl ⟨rfl, rfl, rfl⟩); (unfold maxLen; omega); omega; (focus (first | (simp; done) | (simp; omega))); intro v4 w4 hown4 hgrow4; simp only [Nat.zero_add, List.nil_append] at hown4; have HC4 : Hid (Below w3.heap.size w3 w4) := ((((Below.refl w3.heap.size w3).alloc (Nat.le_refl _) (.cells #[.slice ro rn rc, .slice qo qn qc] 84)).alloc h3r (.cells #[] 84)).drew).grown hgrow4 (by first | (simp; done) | (simp; omega)) (fun k hk => by simp [Value.ownBlock] at hk; omega); have HOwn4 := Lib.hid hown4; have hs4 := HC4.out.size; have HSrc4 := Lib.hid (src_grown (src_drew HNew3.out) hgrow4 hsz3 (by simp [Value.ownBlock])); clear hown4 hgrow4) | (refine step_append_src rfl (.tmp 72) (.tmp 74) 37 rfl w3.heap.size 84 j0 (.agg #[.slice none 0 0, .slice none 0 0]) 2 48 Tryd.underlying37 hj hy0 hy1 hy2 rfl (by decide) v4 0 [] rfl ?_ (.slice (some ⟨w4.heap.size, 0, none⟩) 1 1) 1 [.slice ro rn rc, .slice qo qn qc] rfl ?_ ?_ ?_ ?_ ?_; (exact HOwn4.out.alloc _); (exact src_new w4 [.slice ro rn rc, .slice qo qn qc] 84 2 1 1 rfl (fun u hu => by simp at hu; rcases hu with rfl | rfl <;> rfl)); (unfold maxLen; omega); omega; (focus (first | omega | (simp; done) | (simp; omega))); intro v5 w5 hown5 hgrow5; have HC5 : Hid (Below w3.heap.size w3 w5) := (HC4.out.alloc hs4 (.cells #[.slice ro rn rc, .slice qo qn qc] 84)).grown hgrow5 (by first | (simp; done) | (simp; omega)) (fun k hk => (HOwn4.out.lt k hk).1); have HOwn5 := Lib.hid hown5; have hs5 := HC5.out.size; clear hown5 hgrow5) | (refine step_append_src rfl (.tmp 72) (.tmp 74) 37 rfl w3.heap.size 84 j0 (.agg #[.slice none 0 0, .slice none 0 0]) 2 48 Tryd.underlying37 hj hy0 hy1 hy2 rfl (by decide) v4 0 [] rfl ?_ (.slice (some ⟨w3.heap.size + 1, 0, none⟩) 1 1) 1 [.slice ro rn rc, .slice qo qn qc] rfl ?_ ?_ ?_ ?_ ?_; (exact HOwn4.out); (exact HSrc4.out); (unfold maxLen; omega); omega; (focus (first | omega | (simp; done) | (simp; omega))); intro v5 w5 hown5 hgrow5; have HC5 : Hid (Below w3.heap.size w3 w5) := HC4.out.grown hgrow5 hs4 (fun k hk => (HOwn4.out.lt k hk).1); have HOwn5 := Lib.hid hown5; have hs5 := HC5.out.size; clear hown5 hgrow5) | (refine step_append_src rfl (.tmp 72) (.tmp 74) 37 rfl w3.heap.size 84 j0 (.agg #[.slice none 0 0, .slice none 0 0]) 2 48 Tryd.underlying37 hj hy0 hy1 hy2 rfl (by decide) v4 0 [] rfl ?_ (.slice (some ⟨w3.heap.size, 0, none⟩) 1 1) 1 [.slice ro rn rc, .slice qo qn qc] rfl ?_ ?_ ?_ ?_ ?_; (exact HOwn4.out); (exact HSrc4.out); (unfold maxLen; omega); omega; (focus (first | omega | (simp; done) | (simp; omega))); intro v5 w5 hown5 hgrow5; have HC5 : Hid (Below w3.heap.size w3 w5) := HC4.out.grown hgrow5 hs4 (fun k hk => (HOwn4.out.lt k hk).1); have HOwn5 := Lib.hid hown5; have hs5 := HC5.out.size; clear hown5 hgrow5))
          all_goals clear d1 t0 t1 HMade3 HNew2 HNew3 h3r h3e hsz3
          all_goals
            have HB5 : Hid (Below w1.heap.size w1 w5) := HB3.out.trans (HC5.out.mono hs3)
            have HNm := Lib.hid (own_keep HOwn2.out HC5.out)
            have z5 := (HB5.out.cell (p := ⟨D, 0, none⟩) HDl.out.2.1).trans z0
            have y5 := (HFr.out w5 HB5.out).1
            all_goals
              go_upto_region 12 with fail
              go_wp2_with (first | (at_builtin; refine wpList_append_src rfl (.tmp 77) (.tmp 83) 24 rfl w1.heap.size 9 i0 (.string ⟨#[]⟩) 1 16 Tryd.underlying24 hi hz0 hz1 hz2 rfl (by decide) v2 1 _ rfl HNm.out _ 0 [] rfl ?_ ?_ ?_ ?_ ?_))
              · first | exact .inl ⟨rfl, rfl, rfl⟩ | (simp only [Act.eval, Array.getD]; go_simp; exact .inl ⟨rfl, rfl, rfl⟩) | (go_simp; exact .inl ⟨rfl, rfl, rfl⟩)
              try any_goals (focus (first | (with_reducible exact HB5.out.size) | (show _ ≤ maxLen; unfold maxLen; omega) | (show (_ : Nat) ≤ _; omega) | (show (_ : Nat) ≤ _; simp; omega)))
              intro v6 w6 hown6 hgrow6
              have HB6 : Hid (Below w1.heap.size w1 w6) := HB5.out.grown hgrow6 HB5.out.size (fun k hk => (HNm.out.lt k hk).1)
              obtain ⟨a6, c6, hv6⟩ := own_form hown6
              subst hv6
              have HOwn6 := Lib.hid hown6
              have hs6 := HB6.out.size
              have HS6 := Lib.hid (own_grown_other (own_keep HOwn5.out (Below.refl _ _)) HNm.out (by decide) hgrow6)
              have z6 := (HB6.out.cell (p := ⟨D, 0, none⟩) HDl.out.2.1).trans z0
              have y6 := (HFr.out w6 HB6.out).1
              clear hown6 hgrow6 z5 y5
              go_upto_region 13 with fail
              have hD6 := (HFr.out w6 HB6.out).2.2
              have HD7 := Lib.hid (heap_put0 (u := .slice a6 1 c6) hD6)
              have HS7 := Lib.hid (own_other (u := .slice a6 1 c6) (j := 0) HS6.out hD6 (by decide))
              have hs7 : (w6.setCell ⟨D, 0, none⟩ (.slice a6 1 c6)).heap.size = w6.heap.size := by simp [World.setCell]
              have HD6 := Lib.hid hD6
              clear hD6 z6 y6
              generalize hw7 : w6.setCell ⟨D, 0, none⟩ (.slice a6 1 c6) = w7 at *
              have HW7 := Lib.hid hw7
              clear hw7
              have d7 : w7.cell? ⟨D, 1, none⟩ = some (.slice none 0 0) := (cell_of_row w7 D 1 _ 39 (0, 0) HD7.out).trans rfl
              go_wp2_with (first | (at_builtin; refine wpList_append_src rfl (.tmp 88) (.tmp 94) 37 rfl w1.heap.size 84 j0 (.agg #[.slice none 0 0, .slice none 0 0]) 2 48 Tryd.underlying37 hj hy0 hy1 hy2 rfl (by decide) v5 1 _ rfl (own_low HS7.out hs3) _ 0 [] rfl ?_ ?_ ?_ ?_ ?_))
              · first | exact .inl ⟨rfl, rfl, rfl⟩ | (simp only [Act.eval, Array.getD]; go_simp; exact .inl ⟨rfl, rfl, rfl⟩) | (go_simp; exact .inl ⟨rfl, rfl, rfl⟩)
              try any_goals (focus (first | (with_reducible exact HB5.out.size) | (show _ ≤ maxLen; unfold maxLen; omega) | (show (_ : Nat) ≤ _; omega) | (show (_ : Nat) ≤ _; simp; omega)))
              intro v8 w8 hown8 hgrow8
              obtain ⟨a8, c8, hv8⟩ := own_form hown8
              subst hv8
              have hEnd := desk_end (a := a) (nv := .slice none 0 0) (bv := .slice none 0 0) HLo.out (show lo ≤ w1.heap.size by have := HLo.out; have := HDl.out.2.1; omega) HDl.out.2.1 HD6.out HOwn6.out (own_low HS6.out hs3) (by rw [HW7.out]; exact hgrow8) hown8 (Nat.le_refl 0) (L := []) (k := 0) rfl rfl (ones8 (xs := []) (i := 0) (fun u hu => by cases hu) rfl rfl)
              have hD8 : w8.heap[D]? = w7.heap[D]? := hgrow8.block D (by have := HDl.out.2.1; omega) (fun h => by have := (HS7.out.lt D h.symm).1; have := HDl.out.2.1; omega)
              have d8 : w8.cell? ⟨D, 1, none⟩ = some (.slice none 0 0) := (World.cell?_of_block (a := ⟨D, 1, none⟩) hD8).trans d7
              have y8 : w8.frozen? ⟨D, 1, none⟩ = false := (World.frozen?_of_block (a := ⟨D, 1, none⟩) hD8).trans (frozen_of_row w7 D 1 _ 39 HD7.out)
              have HEnd := Lib.hid hEnd
              clear hEnd hown8 hgrow8 hD8 d7
              go_wp2
              go_ret
              exact ⟨⟨true, rfl⟩, ((HB0.out.mono (show lo ≤ w.heap.size by have := HLo.out; omega)).trans (HB6.out.mono (show lo ≤ w1.heap.size by have := HLo.out; have := HDl.out.2.1; omega))).trans HEnd.out.2, _, HEnd.out.1, by rw [List.length_append, List.length_cons, List.length_take, List.length_drop]; omega, names_mem [] 0 a⟩
      · have hpos : 0 < L.length := by
          obtain ⟨l, x, rfl⟩ := hL
          simp
        have haf : ∃ b, ao = some ⟨b, 0, none⟩ := by
          rcases HNv.out.2 with ⟨_, h⟩ | ⟨g, cb, _, h, _⟩
          · omega
          · simp only [Value.slice.injEq, true_and] at h
            exact ⟨g, h.1⟩
        have hbf : ∃ g cb, bv = .slice (some ⟨g, 0, none⟩) L.length cb := by
          rcases HBv.out.2 with ⟨_, h⟩ | ⟨g, cb, _, h, _⟩
          · omega
          · exact ⟨g, cb, h⟩
        obtain ⟨b, rfl⟩ := haf
        obtain ⟨g, cb, rfl⟩ := hbf
        have HN1 := Lib.hid (own_keep HNv.out HB0.out)
        have HV1 := Lib.hid (own_keep HBv.out HB0.out)
        have HFa : Hid (∀ W, Below w1.heap.size w1 W → (W.cell? ⟨D, 1, none⟩ = some (.slice (some ⟨g, 0, none⟩) L.length cb) ∧ W.cell? ⟨w.heap.size, 0, none⟩ = some (.slice ro rn rc) ∧ W.cell? ⟨w.heap.size, 1, none⟩ = some (.slice qo qn qc))) := fun W hb =>
          ⟨(hb.cell (p := ⟨D, 1, none⟩) HDl.out.2.1).trans ((HB0.out.cell (p := ⟨D, 1, none⟩) hDl).trans ((cell_of_row w D 1 _ 39 (0, 0) HD.out).trans rfl)), (hb.cell (p := ⟨w.heap.size, 0, none⟩) HDl.out.2.2).trans HR.out.1, (hb.cell (p := ⟨w.heap.size, 1, none⟩) HDl.out.2.2).trans HR.out.2⟩
        have HS : Hid (∀ W, Below w1.heap.size w1 W → (W.cell? ⟨D, 1, none⟩ = some (.slice (some ⟨g, 0, none⟩) L.length cb) ∧ W.cell? ⟨w.heap.size, 0, none⟩ = some (.slice ro rn rc) ∧ W.cell? ⟨w.heap.size, 1, none⟩ = some (.slice qo qn qc) ∧ Below w1.heap.size w1 W)) := fun W hb => ⟨(HFa.out W hb).1, (HFa.out W hb).2.1, (HFa.out W hb).2.2, hb⟩
        have hcb : L.length ≤ cb := by
          rcases HBv.out.2 with ⟨h, _⟩ | ⟨g', cb', cur, h, _, _, hh, _⟩
          · cases h
          · simp only [Value.slice.injEq, true_and] at h
            omega
        have HFr : Hid (∀ W, Below w1.heap.size w1 W → (W.frozen? ⟨D, 0, none⟩ = false ∧ W.frozen? ⟨D, 1, none⟩ = false ∧ W.heap[D]? = some (.cells #[.slice (some ⟨b, 0, none⟩) L.length ca, .slice (some ⟨g, 0, none⟩) L.length cb] 39 (0, 0)))) := fun W hb => by
          have hDW : W.heap[D]? = some (.cells #[.slice (some ⟨b, 0, none⟩) L.length ca, .slice (some ⟨g, 0, none⟩) L.length cb] 39 (0, 0)) := (hb.block D HDl.out.2.1).trans ((HB0.out.block D hDl).trans HD.out)
          exact ⟨frozen_of_row W D 0 _ 39 hDW, frozen_of_row W D 1 _ 39 hDW, hDW⟩
        clear hnone hL
        go_loop [8] (fun i => ∃ k : Nat, i = .int .i64 k ∧ k ≤ L.length) (fun i => L.length - (intOf i).toNat)
        case atStart => exact ⟨0, rfl, Nat.zero_le _⟩
        case round =>
          obtain ⟨k, rfl, hk⟩ := hrel
          have hcx : ∃ x : ByteArray, k < L.length → w1.cell? ⟨b, k, none⟩ = some (.string x) := ⟨⟨(L.getD k []).toArray⟩, fun h => by
            rw [HN1.out.cellAt k (by omega)]
            simp [sv, List.getD, h]⟩
          obtain ⟨x, hx⟩ := hcx
          go_upto_region 10 with fail
          case roundEnd =>
            go_round
            case rel => exact ⟨k + 1, by go_num, by omega⟩
            case measure => simp [intOf]; omega
          all_goals clear hx
          all_goals
            go_wp2_with (first | (at_builtin; refine wpList_append_src rfl (.tmp 54) (.tmp 60) 24 rfl w1.heap.size 9 i0 (.string ⟨#[]⟩) 1 16 Tryd.underlying24 hi hz0 hz1 hz2 rfl (by decide) _ 0 [] rfl ?_ _ k ((L.map sv).take k) rfl ?_ ?_ ?_ ?_ ?_))
            · exact World.ownsRow_made (base := w1.heap.size) (e := 9) (size := 1) w1 #[] 0 (by omega) (by simp [maxLen]) rfl
            · exact src_take1 (own_keep HN1.out ((Below.refl _ w1).alloc (Nat.le_refl _) _)) hk (sv_one L)
            · unfold maxLen; omega
            · omega
            intro v1 w2 hown1 hgrow1
            have HB2 : Hid (Below w1.heap.size w1 w2) := ((Below.refl _ w1).alloc (Nat.le_refl _) _).grown hgrow1 (by simp) (fun k hk => by simp [Value.ownBlock] at hk; omega)
            have hs2 := HB2.out.size
            have HOwn1 := Lib.hid hown1
            clear hgrow1 hown1
            go_wp2_with (first | (at_builtin; refine wpList_append_src rfl (.tmp 61) (.tmp 63) 24 rfl w1.heap.size 9 i0 (.string ⟨#[]⟩) 1 16 Tryd.underlying24 hi hz0 hz1 hz2 rfl (by decide) _ _ _ rfl (HOwn1.out.alloc _) _ 1 [.string ⟨a.toArray⟩] rfl ?_ ?_ ?_ ?_ ?_))
            · exact src_new w2 [.string ⟨a.toArray⟩] 9 1 1 1 rfl (fun u hu => by simp at hu; subst hu; rfl)
            · unfold maxLen; omega
            · omega
            · first | omega | (simp; omega)
            intro v2 w3 hown2 hgrow2
            have HB3 : Hid (Below w1.heap.size w1 w3) := (HB2.out.alloc (by omega) _).grown hgrow2 (by simp; omega) (fun k hk => (HOwn1.out.lt k hk).1)
            have hs3 := HB3.out.size
            have HOwn2 := Lib.hid hown2
            clear hgrow2 hown2
            have d1 := (HFa.out w3 HB3.out).1
            have t0 := (HFa.out w3 HB3.out).2.1
            have t1 := (HFa.out w3 HB3.out).2.2
            have h3r : w3.heap.size ≤ (w3.alloc (.cells #[.slice ro rn rc, .slice qo qn qc] 84)).heap.size := by simp
            have h3e : w3.heap.size ≤ (w3.alloc (.cells #[] 84)).heap.size := by simp
            have hsz3 : w3.heap.size < ((w3.alloc (.cells #[.slice ro rn rc, .slice qo qn qc] 84)).alloc (.cells #[] 84)).drew.heap.size := by simp; omega
            have HNew2 : Hid (SrcOf ((w3.alloc (.cells #[] 84)).alloc (.cells #[.slice ro rn rc, .slice qo qn qc] 84)) 2 (.slice (some ⟨w3.heap.size + 1, 0, none⟩) 1 1) 1 [.slice ro rn rc, .slice qo qn qc]) := by
              have h := src_new (w3.alloc (.cells #[] 84)) [.slice ro rn rc, .slice qo qn qc] 84 2 1 1 rfl (fun u hu => by simp at hu; rcases hu with rfl | rfl <;> rfl)
              simp only [World.size_alloc] at h
              exact h
            have HNew3 : Hid (SrcOf ((w3.alloc (.cells #[.slice ro rn rc, .slice qo qn qc] 84)).alloc (.cells #[] 84)) 2 (.slice (some ⟨w3.heap.size, 0, none⟩) 1 1) 1 [.slice ro rn rc, .slice qo qn qc]) :=
              src_grown (src_new w3 [.slice ro rn rc, .slice qo qn qc] 84 2 1 1 rfl (fun u hu => by simp at hu; rcases hu with rfl | rfl <;> rfl)) (grown_alloc _ (.cells #[] 84) none) (by simp) (by simp)
            have HMade3 : Hid (((w3.alloc (.cells #[.slice ro rn rc, .slice qo qn qc] 84)).alloc (.cells #[] 84)).ownsRow w3.heap.size 84 2 (.slice (some ⟨w3.heap.size + 1, 0, none⟩) 0 0) 0 []) := by
              have h := World.ownsRow_made (base := w3.heap.size) (e := 84) (size := 2) (w3.alloc (.cells #[.slice ro rn rc, .slice qo qn qc] 84)) #[] 0 h3r (by simp [maxLen]) rfl
              simp only [World.size_alloc] at h
              exact h
            have hkc : (k : Int) ≤ (cb : Int) := by omega
            go_upto_region 11 with fail
            go_region_held3 (fun w' => w'.cell? ⟨D, 1, none⟩ = some (.slice (some ⟨g, 0, none⟩) L.length cb) ∧ w'.cell? ⟨w.heap.size, 0, none⟩ = some (.slice ro rn rc) ∧ w'.cell? ⟨w.heap.size, 1, none⟩ = some (.slice qo qn qc) ∧ Below w1.heap.size w1 w') (first | exact HS.out _ (HB3.out.trans (HC5.out.mono hs3)) | exact HS.out _ (HB3.out.trans (HC4.out.mono hs3)) | exact HS.out _ (HB3.out.trans ((HC4.out.alloc hs4 (.cells #[.slice ro rn rc, .slice qo qn qc] 84)).mono hs3)) | exact HS.out _ HB3.out.drew | exact HS.out _ (HB3.out.trans (((Below.refl w3.heap.size w3).alloc (Nat.le_refl _) (.cells #[] 84)).drew.mono hs3)) | exact HS.out _ (HB3.out.trans (((Below.refl w3.heap.size w3).alloc (Nat.le_refl _) (.cells #[.slice ro rn rc, .slice qo qn qc] 84)).drew.mono hs3)) | exact HS.out _ (HB3.out.trans ((((Below.refl w3.heap.size w3).alloc (Nat.le_refl _) (.cells #[] 84)).alloc h3e (.cells #[.slice ro rn rc, .slice qo qn qc] 84)).drew.mono hs3)) | exact HS.out _ (HB3.out.trans ((((Below.refl w3.heap.size w3).alloc (Nat.le_refl _) (.cells #[.slice ro rn rc, .slice qo qn qc] 84)).alloc h3r (.cells #[] 84)).drew.mono hs3)))
              (first | (refine step_append_src rfl (.tmp 65) (.tmp 71) 37 rfl w3.heap.size 84 j0 (.agg #[.slice none 0 0, .slice none 0 0]) 2 48 Tryd.underlying37 hj hy0 hy1 hy2 rfl (by decide) (.slice (some ⟨w3.heap.size, 0, none⟩) 0 0) 0 [] rfl ?_ (.slice (some ⟨g, 0, none⟩) k cb) k (xs.take (k * 2)) rfl ?_ ?_ ?_ ?_ ?_; (exact own_drew (World.ownsRow_made (base := w3.heap.size) (e := 84) (size := 2) w3 #[] 0 (Nat.le_refl _) (by simp [maxLen]) rfl)); (exact src_take (own_keep HV1.out (HB3.out.trans (((Below.refl w3.heap.size w3).alloc (Nat.le_refl _) (.cells #[] 84)).drew.mono hs3))) hk HOne.out); (unfold maxLen; omega); omega; (focus (first | (simp; done) | (simp; omega))); intro v4 w4 hown4 hgrow4; simp only [Nat.zero_add, List.nil_append] at hown4; have HC4 : Hid (Below w3.heap.size w3 w4) := (((Below.refl w3.heap.size w3).alloc (Nat.le_refl _) (.cells #[] 84)).drew).grown hgrow4 (by first | (simp; done) | (simp; omega)) (fun k hk => by simp [Value.ownBlock] at hk; omega); have HOwn4 := Lib.hid hown4; have hs4 := HC4.out.size; skip; clear hown4 hgrow4) | (refine step_append_src rfl (.tmp 65) (.tmp 71) 37 rfl w3.heap.size 84 j0 (.agg #[.slice none 0 0, .slice none 0 0]) 2 48 Tryd.underlying37 hj hy0 hy1 hy2 rfl (by decide) (.slice (some ⟨w3.heap.size, 0, none⟩) 0 0) 0 [] rfl ?_ (.slice (some ⟨g, 0, none⟩) k cb) k (xs.take (k * 2)) rfl ?_ ?_ ?_ ?_ ?_; (exact own_drew ((World.ownsRow_made (base := w3.heap.size) (e := 84) (size := 2) w3 #[] 0 (Nat.le_refl _) (by simp [maxLen]) rfl).alloc _)); (exact src_take (own_keep HV1.out (HB3.out.trans ((((Below.refl w3.heap.size w3).alloc (Nat.le_refl _) (.cells #[] 84)).alloc h3e (.cells #[.slice ro rn rc, .slice qo qn qc] 84)).drew.mono hs3))) hk HOne.out); (unfold maxLen; omega); omega; (focus (first | (simp; done) | (simp; omega))); intro v4 w4 hown4 hgrow4; simp only [Nat.zero_add, List.nil_append] at hown4; have HC4 : Hid (Below w3.heap.size w3 w4) := ((((Below.refl w3.heap.size w3).alloc (Nat.le_refl _) (.cells #[] 84)).alloc h3e (.cells #[.slice ro rn rc, .slice qo qn qc] 84)).drew).grown hgrow4 (by first | (simp; done) | (simp; omega)) (fun k hk => by simp [Value.ownBlock] at hk; omega); have HOwn4 := Lib.hid hown4; have hs4 := HC4.out.size; have HSrc4 := Lib.hid (src_grown (src_drew HNew2.out) hgrow4 (by simp) (by simp [Value.ownBlock])); clear hown4 hgrow4) | (refine step_append_src rfl (.tmp 65) (.tmp 71) 37 rfl w3.heap.size 84 j0 (.agg #[.slice none 0 0, .slice none 0 0]) 2 48 Tryd.underlying37 hj hy0 hy1 hy2 rfl (by decide) (.slice (some ⟨w3.heap.size + 1, 0, none⟩) 0 0) 0 [] rfl ?_ (.slice (some ⟨g, 0, none⟩) k cb) k (xs.take (k * 2)) rfl ?_ ?_ ?_ ?_ ?_; (exact own_drew (HMade3.out)); (exact src_take (own_keep HV1.out (HB3.out.trans ((((Below.refl w3.heap.size w3).alloc (Nat.le_refl _) (.cells #[.slice ro rn rc, .slice qo qn qc] 84)).alloc h3r (.cells #[] 84)).drew.mono hs3))) hk HOne.out); (unfold maxLen; omega); omega; (focus (first | (simp; done) | (simp; omega))); intro v4 w4 hown4 hgrow4; simp only [Nat.zero_add, List.nil_append] at hown4; have HC4 : Hid (Below w3.heap.size w3 w4) := ((((Below.refl w3.heap.size w3).alloc (Nat.le_refl _) (.cells #[.slice ro rn rc, .slice qo qn qc] 84)).alloc h3r (.cells #[] 84)).drew).grown hgrow4 (by first | (simp; done) | (simp; omega)) (fun k hk => by simp [Value.ownBlock] at hk; omega); have HOwn4 := Lib.hid hown4; have hs4 := HC4.out.size; have HSrc4 := Lib.hid (src_grown (src_drew HNew3.out) hgrow4 hsz3 (by simp [Value.ownBlock])); clear hown4 hgrow4) | (refine step_append_src rfl (.tmp 72) (.tmp 74) 37 rfl w3.heap.size 84 j0 (.agg #[.slice none 0 0, .slice none 0 0]) 2 48 Tryd.underlying37 hj hy0 hy1 hy2 rfl (by decide) v4 k (xs.take (k * 2)) rfl ?_ (.slice (some ⟨w4.heap.size, 0, none⟩) 1 1) 1 [.slice ro rn rc, .slice qo qn qc] rfl ?_ ?_ ?_ ?_ ?_; (exact HOwn4.out.alloc _); (exact src_new w4 [.slice ro rn rc, .slice qo qn qc] 84 2 1 1 rfl (fun u hu => by simp at hu; rcases hu with rfl | rfl <;> rfl)); (unfold maxLen; omega); omega; (focus (first | omega | (simp; done) | (simp; omega))); intro v5 w5 hown5 hgrow5; have HC5 : Hid (Below w3.heap.size w3 w5) := (HC4.out.alloc hs4 (.cells #[.slice ro rn rc, .slice qo qn qc] 84)).grown hgrow5 (by first | (simp; done) | (simp; omega)) (fun k hk => (HOwn4.out.lt k hk).1); have HOwn5 := Lib.hid hown5; have hs5 := HC5.out.size; clear hown5 hgrow5) | (refine step_append_src rfl (.tmp 72) (.tmp 74) 37 rfl w3.heap.size 84 j0 (.agg #[.slice none 0 0, .slice none 0 0]) 2 48 Tryd.underlying37 hj hy0 hy1 hy2 rfl (by decide) v4 k (xs.take (k * 2)) rfl ?_ (.slice (some ⟨w3.heap.size + 1, 0, none⟩) 1 1) 1 [.slice ro rn rc, .slice qo qn qc] rfl ?_ ?_ ?_ ?_ ?_; (exact HOwn4.out); (exact HSrc4.out); (unfold maxLen; omega); omega; (focus (first | omega | (simp; done) | (simp; omega))); intro v5 w5 hown5 hgrow5; have HC5 : Hid (Below w3.heap.size w3 w5) := HC4.out.grown hgrow5 hs4 (fun k hk => (HOwn4.out.lt k hk).1); have HOwn5 := Lib.hid hown5; have hs5 := HC5.out.size; clear hown5 hgrow5) | (refine step_append_src rfl (.tmp 72) (.tmp 74) 37 rfl w3.heap.size 84 j0 (.agg #[.slice none 0 0, .slice none 0 0]) 2 48 Tryd.underlying37 hj hy0 hy1 hy2 rfl (by decide) v4 k (xs.take (k * 2)) rfl ?_ (.slice (some ⟨w3.heap.size, 0, none⟩) 1 1) 1 [.slice ro rn rc, .slice qo qn qc] rfl ?_ ?_ ?_ ?_ ?_; (exact HOwn4.out); (exact HSrc4.out); (unfold maxLen; omega); omega; (focus (first | omega | (simp; done) | (simp; omega))); intro v5 w5 hown5 hgrow5; have HC5 : Hid (Below w3.heap.size w3 w5) := HC4.out.grown hgrow5 hs4 (fun k hk => (HOwn4.out.lt k hk).1); have HOwn5 := Lib.hid hown5; have hs5 := HC5.out.size; clear hown5 hgrow5))
            all_goals clear d1 t0 t1 HMade3 HNew2 HNew3 h3r h3e hsz3
            all_goals
              have HB5 : Hid (Below w1.heap.size w1 w5) := HB3.out.trans (HC5.out.mono hs3)
              have HNm := Lib.hid (own_keep HOwn2.out HC5.out)
              have z5 := (HB5.out.cell (p := ⟨D, 0, none⟩) HDl.out.2.1).trans z0
              have y5 := (HFr.out w5 HB5.out).1
              rcases Nat.lt_or_ge k ca with hkca | hkca
              all_goals rcases Nat.lt_or_ge k cb with hkcb | hkcb
              all_goals first | (exfalso; omega) | skip
              all_goals
                go_upto_region 12 with fail
                go_wp2_with (first | (at_builtin; refine wpList_append_src rfl (.tmp 77) (.tmp 83) 24 rfl w1.heap.size 9 i0 (.string ⟨#[]⟩) 1 16 Tryd.underlying24 hi hz0 hz1 hz2 rfl (by decide) v2 (k + 1) _ rfl HNm.out _ (L.length - k) ((L.map sv).drop k) rfl ?_ ?_ ?_ ?_ ?_))
                · first | exact src_drop1 (own_keep HN1.out HB5.out) hk (sv_one L) | (simp only [Act.eval, Array.getD]; go_simp; exact src_drop1 (own_keep HN1.out HB5.out) hk (sv_one L)) | (exact src_empty (by omega) (List.drop_eq_nil_of_le (by rw [List.length_map]; omega))) | (simp only [Act.eval, Array.getD]; go_simp; exact src_empty (by omega) (List.drop_eq_nil_of_le (by rw [List.length_map]; omega)))
                · unfold maxLen; omega
                · omega
                · exact HB5.out.size
                intro v6 w6 hown6 hgrow6
                have HB6 : Hid (Below w1.heap.size w1 w6) := HB5.out.grown hgrow6 HB5.out.size (fun k hk => (HNm.out.lt k hk).1)
                obtain ⟨a6, c6, hv6⟩ := own_form hown6
                subst hv6
                have HOwn6 := Lib.hid hown6
                have hs6 := HB6.out.size
                have HS6 := Lib.hid (own_grown_other (own_keep HOwn5.out (Below.refl _ _)) HNm.out (by decide) hgrow6)
                have z6 := (HB6.out.cell (p := ⟨D, 0, none⟩) HDl.out.2.1).trans z0
                have y6 := (HFr.out w6 HB6.out).1
                clear hown6 hgrow6 z5 y5
                go_upto_region 13 with fail
                have hD6 := (HFr.out w6 HB6.out).2.2
                have HD7 := Lib.hid (heap_put0 (u := .slice a6 (k + 1 + (L.length - k)) c6) hD6)
                have HS7 := Lib.hid (own_other (u := .slice a6 (k + 1 + (L.length - k)) c6) (j := 0) HS6.out hD6 (by decide))
                have HV7 := Lib.hid (own_other (u := .slice a6 (k + 1 + (L.length - k)) c6) (j := 0) (own_keep HV1.out HB6.out) hD6 (by decide))
                have hs7 : (w6.setCell ⟨D, 0, none⟩ (.slice a6 (k + 1 + (L.length - k)) c6)).heap.size = w6.heap.size := by simp [World.setCell]
                have HD6 := Lib.hid hD6
                clear hD6 z6 y6
                generalize hw7 : w6.setCell ⟨D, 0, none⟩ (.slice a6 (k + 1 + (L.length - k)) c6) = w7 at *
                have HW7 := Lib.hid hw7
                clear hw7
                have d7 : w7.cell? ⟨D, 1, none⟩ = some (.slice (some ⟨g, 0, none⟩) L.length cb) := (cell_of_row w7 D 1 _ 39 (0, 0) HD7.out).trans rfl
                go_wp2_with (first | (at_builtin; refine wpList_append_src rfl (.tmp 88) (.tmp 94) 37 rfl w1.heap.size 84 j0 (.agg #[.slice none 0 0, .slice none 0 0]) 2 48 Tryd.underlying37 hj hy0 hy1 hy2 rfl (by decide) v5 (k + 1) _ rfl (own_low HS7.out hs3) _ (L.length - k) (xs.drop (k * 2)) rfl ?_ ?_ ?_ ?_ ?_))
                · first | exact src_drop HV7.out hk HOne.out | (simp only [Act.eval, Array.getD]; go_simp; exact src_drop HV7.out hk HOne.out) | (exact src_empty (by omega) (List.drop_eq_nil_of_le (by rw [HV1.out.1]; omega))) | (simp only [Act.eval, Array.getD]; go_simp; exact src_empty (by omega) (List.drop_eq_nil_of_le (by rw [HV1.out.1]; omega)))
                · unfold maxLen; omega
                · omega
                · omega
                intro v8 w8 hown8 hgrow8
                obtain ⟨a8, c8, hv8⟩ := own_form hown8
                subst hv8
                have hEnd := desk_end (a := a) (nv := .slice (some ⟨b, 0, none⟩) L.length ca) (bv := .slice (some ⟨g, 0, none⟩) L.length cb) HLo.out (show lo ≤ w1.heap.size by have := HLo.out; have := HDl.out.2.1; omega) HDl.out.2.1 HD6.out HOwn6.out (own_low HS6.out hs3) (by rw [HW7.out]; exact hgrow8) hown8 hk (by omega) (names_eq L k a) (ones8 HOne.out rfl rfl)
                have hD8 : w8.heap[D]? = w7.heap[D]? := hgrow8.block D (by have := HDl.out.2.1; omega) (fun h => by have := (HS7.out.lt D h.symm).1; have := HDl.out.2.1; omega)
                have d8 : w8.cell? ⟨D, 1, none⟩ = some (.slice (some ⟨g, 0, none⟩) L.length cb) := (World.cell?_of_block (a := ⟨D, 1, none⟩) hD8).trans d7
                have y8 : w8.frozen? ⟨D, 1, none⟩ = false := (World.frozen?_of_block (a := ⟨D, 1, none⟩) hD8).trans (frozen_of_row w7 D 1 _ 39 HD7.out)
                have HEnd := Lib.hid hEnd
                clear hEnd hown8 hgrow8 hD8 d7
                go_wp2
                go_ret
                exact ⟨⟨true, rfl⟩, ((HB0.out.mono (show lo ≤ w.heap.size by have := HLo.out; omega)).trans (HB6.out.mono (show lo ≤ w1.heap.size by have := HLo.out; have := HDl.out.2.1; omega))).trans HEnd.out.2, _, HEnd.out.1, by rw [List.length_append, List.length_cons, List.length_take, List.length_drop]; omega, names_mem L k a⟩
  · obtain ⟨k, rfl⟩ : ∃ j : Nat, k = j := ⟨k.toNat, by omega⟩
    have hbf : ∃ g cb, bv = .slice (some ⟨g, 0, none⟩) L.length cb := by
      rcases HBv.out.2 with ⟨_, h⟩ | ⟨g, cb, _, h, _⟩
      · omega
      · exact ⟨g, cb, h⟩
    obtain ⟨g, cb, rfl⟩ := hbf
    have c1 : w.cell? ⟨D, 1, none⟩ = some (.slice (some ⟨g, 0, none⟩) L.length cb) := (cell_of_row w D 1 _ 39 (0, 0) HD.out).trans rfl
    have hxl : xs.length = L.length * 2 := HBv.out.1
    have hgl : g < w.heap.size := by
      rcases HBv.out.2 with ⟨h, _⟩ | ⟨g', cb', cur, h, _, hh, _⟩
      · cases h
      · simp only [Value.slice.injEq, Option.some.injEq, Addr.mk.injEq, and_true, true_and] at h
        obtain ⟨rfl, rfl⟩ := h
        exact (Array.getElem?_eq_some_iff.1 hh).1
    have e0 : w.cell? ⟨g, k * 2, none⟩ = some (xs.getD (k * 2) undef) := by
      rw [HBv.out.cellAt (k * 2) (by omega)]
      simp [List.getD, show k * 2 < xs.length by omega]
    have e1 : w.cell? ⟨g, k * 2 + 1, none⟩ = some (xs.getD (k * 2 + 1) undef) := by
      rw [HBv.out.cellAt (k * 2 + 1) (by omega)]
      simp [List.getD, show k * 2 + 1 < xs.length by omega]
    have f0 : w.frozen? ⟨g, k * 2, none⟩ = false := HBv.out.frozenAt _
    have f1 : w.frozen? ⟨g, k * 2 + 1, none⟩ = false := HBv.out.frozenAt _
    have z1 := (HB0.out.cell (p := ⟨D, 1, none⟩) hDl).trans c1
    have z2 := (HB0.out.cell (p := ⟨g, k * 2, none⟩) hgl).trans e0
    have z3 := (HB0.out.cell (p := ⟨g, k * 2 + 1, none⟩) hgl).trans e1
    have z4 := (HB0.out.frozen (p := ⟨g, k * 2, none⟩) hgl).trans f0
    have z5 := (HB0.out.frozen (p := ⟨g, k * 2 + 1, none⟩) hgl).trans f1
    have y0 : (w.alloc (.cells #[.slice ro rn rc, .slice qo qn qc] 84)).cell? ⟨w.heap.size, 0, none⟩ = some (.slice ro rn rc) := by simp [go_sem]
    have y1 : (w.alloc (.cells #[.slice ro rn rc, .slice qo qn qc] 84)).cell? ⟨w.heap.size, 1, none⟩ = some (.slice qo qn qc) := by simp [go_sem]
    have HZ : Hid (DeskAt lo D L _ ∧ Below lo _ _) := desk_put (i := k * 2) (j := k * 2 + 1) (u := .slice ro rn rc) (u' := .slice qo qn qc) HLo.out ((HB0.out.block D hDl).trans HD.out) (own_keep HNv.out HB0.out) (own_keep HBv.out HB0.out) HOne.out rfl rfl (by intro h; rw [h] at hk1; simp at hk1; omega)
    have hwl : w.heap.size < (w.alloc (.cells #[.slice ro rn rc, .slice qo qn qc] 84)).heap.size := by simp
    clear c1 e0 e1 f0 f1
    go_wp2_with fail
    generalize w.alloc (.cells #[.slice ro rn rc, .slice qo qn qc] 84) = w1 at *
    go_region
    all_goals go_wp2
    go_ret
    exact ⟨⟨true, rfl⟩, (HB0.out.mono (by have := HLo.out; omega)).trans HZ.out.2.drew, L, desk_drew HZ.out.1, Nat.le_succ _, fun x hx => List.mem_cons_of_mem _ hx⟩

end Go.Proofs.YthmjcjoecelnmaaDoor
