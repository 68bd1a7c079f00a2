/- Runs of sorted versions: the plain law behind slices' stable sort of many versions. No program in sight. -/
import Derived.Test.YtndlhmnablefpaaSym1
namespace Go.Proofs.Ytndlhmnablefpaa
open Go.RowKit
set_option linter.unusedSimpArgs false
set_option linter.unusedVariables false
/-- Each run of s versions from p on is in order. -/
def Runs (s p n : Nat) (zs : List Ver) : Prop := ∀ j, p ≤ j * s → SortedOn (j * s) (min ((j + 1) * s) n) zs
/-- Each run of t versions up to p is in order. -/
def RunsTo (t p : Nat) (zs : List Ver) : Prop := ∀ j, (j + 1) * t ≤ p → SortedOn (j * t) ((j + 1) * t) zs
theorem sortedOn_short {a b : Nat} {xs : List Ver} (h : b ≤ a + 1) : SortedOn a b xs := fun p q h1 h2 h3 => by omega
theorem RunsTo.step {t k : Nat} {zs ys : List Ver} (ht : 0 < t) (h : RunsTo t (k * t) zs) (hs : SortedOn (k * t) (k * t + t) ys) (he : ∀ i, i < k * t → el ys i = el zs i) : RunsTo t ((k + 1) * t) ys := fun j hj => by
  have hjk : j + 1 ≤ k + 1 := Nat.le_of_mul_le_mul_right hj ht
  rcases Nat.lt_or_ge j k with h' | h'
  · have h1 : (j + 1) * t ≤ k * t := Nat.mul_le_mul_right _ (by omega)
    exact (h j h1).of_el fun i _ h2 => he i (by omega)
  · obtain rfl : j = k := by omega
    rw [Nat.add_mul, Nat.one_mul]; exact hs
theorem Runs.keep {s p q n : Nat} {zs ys : List Ver} (h : Runs s p n zs) (hpq : p ≤ q) (he : ∀ i, q ≤ i → el ys i = el zs i) : Runs s q n ys := fun j hj => (h j (by omega)).of_el fun i h1 _ => he i (by omega)
theorem Runs.left {s k n : Nat} {zs : List Ver} (h : Runs s (k * (2 * s)) n zs) (hn : k * (2 * s) + s ≤ n) : SortedOn (k * (2 * s)) (k * (2 * s) + s) zs := by
  have e1 : 2 * k * s = k * (2 * s) := by rw [Nat.mul_comm 2 k, Nat.mul_assoc]
  have h1 := h (2 * k) (by omega)
  rw [Nat.add_mul, Nat.one_mul, e1, Nat.min_eq_left hn] at h1
  exact h1
theorem Runs.last {s k n : Nat} {zs : List Ver} (h : Runs s (k * (2 * s)) n zs) (hn : n ≤ k * (2 * s) + s) : SortedOn (k * (2 * s)) n zs := by
  have e1 : 2 * k * s = k * (2 * s) := by rw [Nat.mul_comm 2 k, Nat.mul_assoc]
  have h1 := h (2 * k) (by omega)
  rw [Nat.add_mul, Nat.one_mul, e1, Nat.min_eq_right hn] at h1
  exact h1
theorem Runs.right {s k n : Nat} {zs : List Ver} (h : Runs s (k * (2 * s)) n zs) : SortedOn (k * (2 * s) + s) (min (k * (2 * s) + 2 * s) n) zs := by
  have e1 : (2 * k + 1) * s = k * (2 * s) + s := by rw [Nat.add_mul, Nat.one_mul, Nat.mul_comm 2 k, Nat.mul_assoc]
  have h1 := h (2 * k + 1) (by omega)
  rw [Nat.add_mul (2 * k + 1) 1, Nat.one_mul, e1] at h1
  rwa [show k * (2 * s) + 2 * s = k * (2 * s) + s + s by omega]
/-- The runs up to a and the last one: all runs. -/
theorem Runs.all {t k n : Nat} {zs : List Ver} (ht : 0 < t) (h : RunsTo t (k * t) zs) (hs : SortedOn (k * t) n zs) (hk : k * t ≤ n) (hn : n < k * t + t) : Runs t 0 n zs := fun j _ => by
  rcases Nat.lt_trichotomy j k with h' | h' | h'
  · have h1 : (j + 1) * t ≤ k * t := Nat.mul_le_mul_right _ (by omega)
    exact (h j h1).part (Nat.le_refl _) (Nat.min_le_left _ _)
  · subst h'; exact hs.part (Nat.le_refl _) (Nat.min_le_right _ _)
  · have h1 : (k + 1) * t ≤ j * t := Nat.mul_le_mul_right _ (by omega)
    rw [Nat.add_mul, Nat.one_mul] at h1
    exact sortedOn_short (by have := Nat.min_le_right ((j + 1) * t) n; omega)
theorem Runs.whole {s n : Nat} {zs : List Ver} (h : Runs s 0 n zs) (hs : n ≤ s) : SortedOn 0 n zs := by
  have := h 0 (Nat.zero_le _)
  rwa [Nat.zero_mul, Nat.zero_add, Nat.one_mul, Nat.min_eq_right hs] at this
theorem sorts_of {n : Nat} {xs zs : List Ver} (hp : zs.Perm xs) (hn : xs.length = n) (hs : SortedOn 0 n zs) : Sorts 0 n xs zs := ⟨hp, hs, fun k hk => by
  have h1 : zs.length = n := hp.length_eq.trans hn
  have h2 : n ≤ k := by omega
  simp [el, List.getD, List.getElem?_eq_none (show zs.length ≤ k by omega), List.getElem?_eq_none (show xs.length ≤ k by omega)]⟩
end Go.Proofs.Ytndlhmnablefpaa
