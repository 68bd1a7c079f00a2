/- What an insertion sort comes to: a permutation, in order; slices' stable sort of few versions. -/
import Derived.Test.YtndlhmnablefpaaSort1
namespace Go.Proofs.Ytndlhmnablefpaa
open Go.RowKit
set_option linter.unusedSimpArgs false
set_option linter.unusedVariables false
theorem el_swp {xs : List Ver} {i j : Nat} (hi : i < xs.length) (hj : j < xs.length) (k : Nat) : el (swp xs i j) k = if k = j then el xs i else if k = i then el xs j else el xs k := by
  unfold swp el
  simp only [List.getD_eq_getElem?_getD, List.getElem?_set, List.length_set]
  by_cases h1 : j = k
  · subst h1; simp [hj]
  · by_cases h2 : i = k
    · subst h2; simp [h1, Ne.symm h1, hi]
    · simp [h1, h2, Ne.symm h1, Ne.symm h2]
theorem swp_perm {xs : List Ver} {i j : Nat} (hi : i < xs.length) (hj : j < xs.length) : (swp xs i j).Perm xs := by
  have := List.set_set_perm hi hj
  rwa [el_at hi, el_at hj] at this
/-- x does not come behind y. -/
def leV (x y : Ver) : Prop := lessV y x = false
theorem leV_iff (x y : Ver) : leV x y ↔ (x.p.id < y.p.id ∨ (x.p.id = y.p.id ∧ (x.p.sf < y.p.sf ∨ (x.p.sf = y.p.sf ∧ x.p.vf ≤ y.p.vf)))) := by
  unfold leV lessV
  rw [decide_eq_false_iff_not, ord, cmpI, cmpI, cmpI]
  (repeat' split) <;> simp <;> omega
theorem leV.trans {x y z : Ver} (h : leV x y) (k : leV y z) : leV x z := by
  rw [leV_iff] at *; omega
theorem leV.of_less {x y : Ver} (h : lessV x y = true) : leV x y := by
  have h1 : ¬ leV y x := by unfold leV; rw [h]; simp
  rw [leV_iff] at *; omega
/-- In order from a to b. -/
def SortedOn (a b : Nat) (xs : List Ver) : Prop := ∀ p q, a ≤ p → p < q → q < b → leV (el xs p) (el xs q)
theorem insDown_sorted (a i : Nat) : ∀ (j : Nat) (xs : List Ver), a ≤ j → j ≤ i → i < xs.length → (∀ p q, a ≤ p → p < q → q ≤ i → q ≠ j → leV (el xs p) (el xs q)) → SortedOn a (i + 1) (insDown a j xs)
  | 0, xs, ha, _, _, h => by
    rw [insDown]
    exact fun p q h1 h2 h3 => h p q h1 h2 (by omega) (by omega)
  | j + 1, xs, ha, hj, hi, h => by
    rw [insDown]
    split
    · rename_i hc
      refine insDown_sorted a i j _ (by omega) (by omega) (by rw [swp_len]; exact hi) fun p q h1 h2 h3 h4 => ?_
      rw [el_swp (by omega) (by omega), el_swp (by omega) (by omega)]
      by_cases hq : q = j + 1
      · subst hq
        by_cases hp : p = j
        · subst hp; simp; exact .of_less hc.2
        · rw [if_neg (by omega), if_neg (by omega), if_neg (by omega), if_pos rfl]
          exact h p j h1 (by omega) (by omega) (by omega)
      · rw [if_neg (show ¬ q = j by omega), if_neg hq]
        by_cases hp : p = j
        · rw [if_pos hp]; exact h (j + 1) q (by omega) (by omega) h3 hq
        · by_cases hp' : p = j + 1
          · rw [if_neg hp, if_pos hp']; exact h j q (by omega) (by omega) h3 hq
          · rw [if_neg hp, if_neg hp']; exact h p q h1 h2 h3 hq
    · rename_i hc
      intro p q h1 h2 h3
      by_cases hq : q = j + 1
      · subst hq
        have h5 : leV (el xs j) (el xs (j + 1)) := Bool.eq_false_iff.2 fun hl => hc ⟨by omega, hl⟩
        by_cases hp : p = j
        · rw [hp]; exact h5
        · exact (h p j h1 (by omega) (by omega) (by omega)).trans h5
      · exact h p q h1 h2 (by omega) hq
theorem insDown_perm (a : Nat) : ∀ (j : Nat) (xs : List Ver), j < xs.length → (insDown a j xs).Perm xs
  | 0, _, _ => .refl _
  | j + 1, xs, hj => by
    rw [insDown]
    split
    · exact (insDown_perm a j _ (by rw [swp_len]; omega)).trans (swp_perm hj (by omega))
    · exact .refl _
theorem insDown_else (a : Nat) : ∀ (j : Nat) (xs : List Ver), j < xs.length → a ≤ j → ∀ k, k < a ∨ j < k → el (insDown a j xs) k = el xs k
  | 0, _, _, _, _, _ => rfl
  | j + 1, xs, hj, ha, k, hk => by
    rw [insDown]
    split
    · rename_i hc
      rw [insDown_else a j _ (by rw [swp_len]; omega) (by omega) k (by omega), el_swp hj (by omega), if_neg (by omega), if_neg (by omega)]
    · rfl
structure Sorts (a b : Nat) (xs zs : List Ver) : Prop where
  perm : zs.Perm xs
  sort : SortedOn a b zs
  el : ∀ k, k < a ∨ b ≤ k → el zs k = el xs k
theorem Sorts.len {a b : Nat} {xs zs : List Ver} (h : Sorts a b xs zs) : zs.length = xs.length := h.perm.length_eq
theorem insUp_sorts (a : Nat) : ∀ (n i : Nat) (xs : List Ver), a ≤ i → i + n ≤ xs.length → SortedOn a i xs → Sorts a (i + n) xs (insUp a n i xs)
  | 0, i, xs, _, _, h => ⟨.refl _, h, fun _ _ => rfl⟩
  | n + 1, i, xs, ha, hi, h => by
    have h1 := insDown_sorted a i i xs ha (Nat.le_refl _) (by omega) (fun p q h1 h2 h3 h4 => h p q h1 h2 (by omega))
    have h2 := insUp_sorts a n (i + 1) (insDown a i xs) (by omega) (by rw [insDown_len]; omega) h1
    rw [insUp, show i + (n + 1) = i + 1 + n by omega]
    exact ⟨h2.perm.trans (insDown_perm a i xs (by omega)), h2.sort, fun k hk => by rw [h2.el k hk, insDown_else a i xs (by omega) ha k (by omega)]⟩
theorem insertion_sorts {a b : Nat} {xs : List Ver} (hab : a ≤ b) (hb : b ≤ xs.length) : Sorts a b xs (insUp a (b - (a + 1)) (a + 1) xs) := by
  rcases Nat.lt_or_ge a b with h | h
  · have := insUp_sorts a (b - (a + 1)) (a + 1) xs (by omega) (by omega) (fun p q h1 h2 h3 => by omega)
    rwa [show a + 1 + (b - (a + 1)) = b by omega] at this
  · rw [show b - (a + 1) = 0 by omega]
    exact ⟨.refl _, fun p q h1 h2 h3 => by omega, fun _ _ => rfl⟩
end Go.Proofs.Ytndlhmnablefpaa
