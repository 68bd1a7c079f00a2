/- law41.works is true. -/
import Derived.Test.YtndlhmnablefpaaSame
import Derived.Test.YtndlhmnablefpaaChoose3
import Derived.Laws.Rows
namespace Go.Proofs.Ytndlhmnablefpaa
open Go.RowKit
set_option linter.unusedSimpArgs false
set_option linter.unusedVariables false
def vv (id : Int) : Ver := ⟨⟨id, 0, [], 0, 1, 0, 1, 1, 2⟩, none, 0⟩
set_option maxRecDepth 100000 in
set_option maxHeartbeats 1000000 in
theorem version_any (id : Int) (w : World) :
    Ans Try.prog 29 #[.int .i64 id] w (.agg (vv id).cells.toArray) := by
  unfold Ans
  go_enter Try.func29, Try.ntmps29
  go_wp2_with fail
  refine bodyPost_ret (results_cell_row rfl _ _ w.heap.size 59 _ (0, 0) _ rfl (heap_alloc_new w _) Try.underlying59 rfl (by kernel_rfl)) rfl ?_
  exact ⟨rfl, BW.fin⟩
theorem strict_unique : ∀ {xs ys : List PVer}, xs.Perm ys → xs.Pairwise (fun x y => before x y = true) → ys.Pairwise (fun x y => before x y = true) → xs = ys
  | [], ys, hp, _, _ => by rw [List.nil_perm.1 hp]
  | x :: t, [], hp, _, _ => by have := hp.length_eq; simp at this
  | x :: t, y :: s, hp, h1, h2 => by
    rw [List.pairwise_cons] at h1 h2
    have hxy : x = y := by
      rcases List.mem_cons.1 (hp.subset (List.mem_cons_self (a := x) (l := t))) with h | h
      · exact h
      · rcases List.mem_cons.1 (hp.symm.subset (List.mem_cons_self (a := y) (l := s))) with h' | h'
        · exact h'.symm
        · have a1 := h2.1 x h
          have a2 := h1.1 y h'
          rw [before_iff] at a1 a2
          omega
    subst hxy
    rw [strict_unique (List.Perm.cons_inv hp) h1.2 h2.2]
def bestCheck (xs : List Int) (f t : Nat) : Bool := decide (t ≤ xs.length) && bal (seg xs f t) && (List.range (xs.length + 1)).all (fun j => (List.range j).all fun i => !bal (seg xs i j) || decide (j - i < t - f) || (decide (j - i = t - f) && decide (f ≤ i)))
def noneCheck (xs : List Int) : Bool := (List.range (xs.length + 1)).all (fun j => (List.range j).all fun i => !bal (seg xs i j))
theorem bal_lt {xs : List Int} {i j : Nat} (hj : j ≤ xs.length) (hb : bal (seg xs i j) = true) : i < j := by
  have := bal_len hb
  rw [seg_len _ hj] at this
  omega
theorem best_check {xs : List Int} {f t : Nat} (h : bestCheck xs f t = true) : Best xs f t := by
  simp only [bestCheck, Bool.and_eq_true, decide_eq_true_eq, List.all_eq_true, List.mem_range, Bool.or_eq_true, Bool.not_eq_true'] at h
  refine .some f t h.1.1 h.1.2 fun i j hj hb => ?_
  rcases h.2 j (by omega) i (bal_lt hj hb) with (h1 | h1) | h1
  · rw [hb] at h1; cases h1
  · exact .inl h1
  · exact .inr h1
theorem none_check {xs : List Int} (h : noneCheck xs = true) : Best xs 0 0 := by
  simp only [noneCheck, List.all_eq_true, List.mem_range, Bool.not_eq_true'] at h
  exact .none fun i j hj => Bool.eq_false_iff.2 fun hb => by rw [h j (by omega) i (bal_lt hj hb)] at hb; cases hb
theorem w1 : Best [5, 1, 1, 2] 1 4 := best_check (by decide)
theorem w2 : Best [9, 4, 1] 0 0 := none_check (by decide)
theorem w3 : Best [3, 3] 0 2 := best_check (by decide)
def ex : List (List PVer) := [[(vv 1).p, (vv 4).p], [(vv 2).p, (vv 3).p]]
theorem mres_ex {out : List PVer} {e : Int} (h : MRes ex out e) : out = [(vv 1).p, (vv 2).p, (vv 3).p, (vv 4).p] ∧ e = 0 := by
  have hc : chks ex = 0 := by decide
  cases h with
  | bad h => exact absurd hc h
  | twice h hd =>
    refine absurd ?_ hd
    simp only [Distinct, ex, List.flatten_cons, List.flatten_nil, List.cons_append, List.nil_append, List.append_nil, List.pairwise_cons, List.mem_cons, List.not_mem_nil, or_false, forall_eq_or_imp, forall_eq, false_implies, implies_true, List.Pairwise.nil, and_true]
    decide
  | ok _ h hp hs =>
    refine ⟨strict_unique (hp.trans ?_) hs ?_, rfl⟩
    · show List.Perm [(vv 1).p, (vv 4).p, (vv 2).p, (vv 3).p] _
      exact .cons _ ((List.Perm.swap _ _ _).trans (.cons _ (List.Perm.swap _ _ _)))
    · simp only [List.pairwise_cons, List.mem_cons, List.not_mem_nil, or_false, forall_eq_or_imp, forall_eq, false_implies, implies_true, List.Pairwise.nil, and_true]
      decide
end Go.Proofs.Ytndlhmnablefpaa
