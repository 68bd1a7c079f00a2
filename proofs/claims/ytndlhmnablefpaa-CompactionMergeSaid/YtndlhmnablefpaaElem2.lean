/- One cell of an element of a row of one's own is stored. No program in sight. -/
import Derived.Test.YtndlhmnablefpaaElem
namespace Go.Proofs.Ytndlhmnablefpaa
open Go.RowKit
theorem splice_cell {β : Type} (A B C : List β) (j : Nat) (u : β) (hj : j < B.length) : (A ++ (B ++ C)).take (A.length + j) ++ [u] ++ (A ++ (B ++ C)).drop (A.length + j + 1) = A ++ (B.set j u ++ C) := by
  have h1 : (A ++ (B ++ C)).take (A.length + j) = A ++ B.take j := by
    rw [List.take_append, List.take_of_length_le (by omega), Nat.add_sub_cancel_left, List.take_append_of_le_length (by omega)]
  have h2 : (A ++ (B ++ C)).drop (A.length + j + 1) = B.drop (j + 1) ++ C := by
    rw [Nat.add_assoc, ← List.drop_drop, List.drop_left, List.drop_append_of_le_length (by omega)]
  rw [h1, h2, List.set_eq_take_append_cons_drop, if_pos hj]
  simp
section
variable {α : Type} {d : Kd α} {e : TypeId} {W : World} {base g c : Nat} {xs : List α}
theorem Row.cells_cut (h : Row d e W base g c xs) {cur : Array Value} (hh : W.heap[g]? = some (.cells cur e (0, 0))) (i j : Nat) (hil : i < xs.length) (hj : j < d.sz) (u : Value) (z : α) (hcz : d.cells z = (d.cells xs[i]).set j u) :
    cur.toList.take (i * d.sz + j) ++ [u] ++ cur.toList.drop (i * d.sz + j + 1) = cur.toList.take (i * d.sz) ++ d.cells z ++ cur.toList.drop (i * d.sz + (d.cells z).length) := by
  obtain ⟨cur', hc', hcs, hle, htake⟩ := h.heap
  obtain rfl : cur' = cur := by rw [hc'] at hh; injection hh with hh; injection hh
  have h1 : xs = xs.take i ++ xs[i] :: xs.drop (i + 1) := by rw [List.getElem_cons_drop, List.take_append_drop]
  have hl : ((xs.take i).flatMap d.cells).length = i * d.sz := by rw [length_cells, List.length_take, Nat.min_eq_left (by omega)]
  have h2 : cur'.toList = (xs.take i).flatMap d.cells ++ (d.cells xs[i] ++ ((xs.drop (i + 1)).flatMap d.cells ++ cur'.toList.drop (xs.length * d.sz))) := by
    conv => lhs; rw [← List.take_append_drop (xs.length * d.sz) cur'.toList, htake]
    conv => lhs; arg 1; rw [h1]
    rw [List.flatMap_append, List.flatMap_cons]
    simp
  rw [h2, ← hl]
  have h3 := splice_cell ((xs.take i).flatMap d.cells) (d.cells xs[i]) ((xs.drop (i + 1)).flatMap d.cells ++ cur'.toList.drop (xs.length * d.sz)) j u (by rw [d.hsz]; exact hj)
  have h4 := splice ((xs.take i).flatMap d.cells) (d.cells xs[i]) ((xs.drop (i + 1)).flatMap d.cells ++ cur'.toList.drop (xs.length * d.sz)) (d.cells z)
  rw [h3, ← hcz]
  rw [d.hsz] at h4 ⊢
  exact h4.symm
/-- One cell of an element is written. -/
theorem Row.field (h : Row d e W base g c xs) (i j : Nat) (hil : i < xs.length) (hj : j < d.sz) (u : Value) (z : α) (hcz : d.cells z = (d.cells xs[i]).set j u) (hz : d.inv W z) (hza : ∀ k, k ∈ d.foot z → k ≠ g) :
    Row d e (W.setCell ⟨g, i * d.sz + j, none⟩ u) base g c (xs.set i z) ∧ Gr W (W.setCell ⟨g, i * d.sz + j, none⟩ u) (some g) (some g) := by
  obtain ⟨cur, hh, hcs, hle, htake⟩ := h.heap
  have hmul : (i + 1) * d.sz ≤ c * d.sz := Nat.mul_le_mul_right _ (by omega)
  rw [Nat.add_mul, Nat.one_mul] at hmul
  have heq := h.cells_cut hh i j hil hj u z hcz
  have hw : W.setCell ⟨g, i * d.sz + j, none⟩ u = W.setRow g (cur.toList.take (i * d.sz) ++ d.cells z ++ cur.toList.drop (i * d.sz + (d.cells z).length)).toArray := by
    rw [← heq]
    have hr := setRow_heap W g cur (cur.toList.take (i * d.sz + j) ++ [u] ++ cur.toList.drop (i * d.sz + j + 1)).toArray e _ hh
    have hs : (W.setCell ⟨g, i * d.sz + j, none⟩ u).heap = (W.setRow g (cur.toList.take (i * d.sz + j) ++ [u] ++ cur.toList.drop (i * d.sz + j + 1)).toArray).heap := by
      refine Array.ext_getElem? fun k => ?_
      by_cases hk : k = g
      · subst hk
        rw [hr]
        simp only [World.setCell, Array.getElem?_modify, hh, if_true, Option.map_some, Option.isSome_none, Bool.false_eq_true, if_false]
        congr 2
        apply Array.ext'
        rw [Array.toList_setIfInBounds, List.set_eq_take_append_cons_drop, if_pos (by rw [Array.length_toList]; omega)]
        simp
      · rw [setRow_other W g k _ hk]
        simp [World.setCell, Array.getElem?_modify, Ne.symm hk]
    unfold World.setCell World.setRow at *
    simp only at hs
    rw [hs]
  rw [hw]
  exact h.set i hil z hz hza cur hh
/-- Nothing of a row of one's own is frozen. -/
theorem Row.frozen (h : Row d e W base g c xs) (k : Nat) : W.frozen? ⟨g, k, none⟩ = false := by
  obtain ⟨cur, hh, _⟩ := h.heap
  simp [World.frozen?, hh]
end
end Go.Proofs.Ytndlhmnablefpaa
