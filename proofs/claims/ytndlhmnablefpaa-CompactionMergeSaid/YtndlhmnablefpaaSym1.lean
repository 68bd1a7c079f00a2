/- Exchanging and rotating ranges, merging two sorted ranges: the plain law behind slices' symMerge. No program in sight. -/
import Derived.Test.YtndlhmnablefpaaSort2
namespace Go.Proofs.Ytndlhmnablefpaa
open Go.RowKit
set_option linter.unusedSimpArgs false
set_option linter.unusedVariables false
/-- zs holds at k what xs holds at f k. -/
structure Maps (f : Nat → Nat) (xs zs : List Ver) : Prop where
  perm : zs.Perm xs
  el : ∀ k, el zs k = el xs (f k)
theorem Maps.len {f : Nat → Nat} {xs zs : List Ver} (h : Maps f xs zs) : zs.length = xs.length := h.perm.length_eq
theorem Maps.refl {f : Nat → Nat} (xs : List Ver) (h : ∀ k, f k = k) : Maps f xs xs := ⟨.refl _, fun k => by rw [h]⟩
theorem Maps.trans {f g h : Nat → Nat} {xs ys zs : List Ver} (p : Maps f xs ys) (q : Maps g ys zs) (e : ∀ k, f (g k) = h k) : Maps h xs zs :=
  ⟨q.perm.trans p.perm, fun k => by rw [q.el, p.el, e]⟩
def swI (a b n k : Nat) : Nat := if a ≤ k ∧ k < a + n then k - a + b else if b ≤ k ∧ k < b + n then k - b + a else k
/-- [a, m) and [m, b) change places. -/
def rotI (a m b k : Nat) : Nat := if a ≤ k ∧ k < a + (b - m) then k + (m - a) else if a + (b - m) ≤ k ∧ k < b then k - (b - m) else k
theorem maps_swp {xs : List Ver} {i j : Nat} (hi : i < xs.length) (hj : j < xs.length) : Maps (fun k => if k = j then i else if k = i then j else k) xs (swp xs i j) :=
  ⟨swp_perm hi hj, fun k => by rw [el_swp hi hj]; (repeat' split) <;> rfl⟩
theorem swI_step {a b i n : Nat} (h : a + n ≤ b) (hi : i < n) (k : Nat) : swI a b i (if k = b + i then a + i else if k = a + i then b + i else k) = swI a b (i + 1) k := by
  unfold swI; (repeat' split) <;> omega
theorem rot_big {a m b k : Nat} {i j : Nat} (hi : m - a = i) (hj : b - m = j) (h : j < i) (ham : a < m) (hmb : m < b) : swI (m - i) m j (rotI (m - (i - j)) m (m + j) k) = rotI a m b k := by
  unfold swI rotI; (repeat' split) <;> omega
theorem rot_small {a m b k : Nat} {i j : Nat} (hi : m - a = i) (hj : b - m = j) (h : i < j) (ham : a < m) (hmb : m < b) : swI (m - i) (m + j - i) i (rotI (m - i) m (m + (j - i)) k) = rotI a m b k := by
  unfold swI rotI; (repeat' split) <;> omega
theorem rot_even {a m b k : Nat} {i : Nat} (hi : m - a = i) (hj : b - m = i) (ham : a < m) (hmb : m < b) : swI (m - i) m i k = rotI a m b k := by
  unfold swI rotI; (repeat' split) <;> omega
theorem rot_none {a m b k : Nat} (h : a = m ∨ m = b) (ham : a ≤ m) (hmb : m ≤ b) : rotI a m b k = k := by
  unfold rotI; (repeat' split) <;> omega
/-- Sorted from a to b, of what stood there; else as it was. -/
structure SM (a b : Nat) (xs zs : List Ver) : Prop extends Sorts a b xs zs where
  rng : ∀ p, a ≤ p → p < b → ∃ q, a ≤ q ∧ q < b ∧ Go.Proofs.Ytndlhmnablefpaa.el zs p = Go.Proofs.Ytndlhmnablefpaa.el xs q
theorem SortedOn.of_el {a b : Nat} {xs zs : List Ver} (h : SortedOn a b xs) (he : ∀ k, a ≤ k → k < b → el zs k = el xs k) : SortedOn a b zs := fun p q h1 h2 h3 => by
  rw [he p h1 (by omega), he q (by omega) h3]; exact h p q h1 h2 h3
theorem SortedOn.part {a b a' b' : Nat} {xs : List Ver} (h : SortedOn a b xs) (ha : a ≤ a') (hb : b' ≤ b) : SortedOn a' b' xs := fun p q h1 h2 h3 => h p q (by omega) h2 (by omega)
theorem leV.refl (x : Ver) : leV x x := by rw [leV_iff]; omega
theorem SortedOn.le {a b p q : Nat} {xs : List Ver} (h : SortedOn a b xs) (h1 : a ≤ p) (h2 : p ≤ q) (h3 : q < b) : leV (el xs p) (el xs q) := by
  rcases Nat.lt_or_ge p q with h' | h'
  · exact h p q h1 h' h3
  · rw [show p = q by omega]; exact .refl _
/-- One element goes behind all that are less: x[a] into the sorted [a + 1, b), to place i - 1. -/
theorem one_up {a b i : Nat} {xs zs : List Ver} (hs : SortedOn (a + 1) b xs) (hb : b ≤ xs.length) (h1 : a + 1 ≤ i) (h2 : i ≤ b) (hl : ∀ k, a + 1 ≤ k → k < i → leV (el xs k) (el xs a)) (hr : ∀ k, i ≤ k → k < b → leV (el xs a) (el xs k)) (hm : Maps (rotI a (a + 1) i) xs zs) : SM a b xs zs := by
  have h0 : ∀ k, el zs k = el xs (rotI a (a + 1) i k) := hm.el
  refine ⟨⟨hm.perm, fun p q hp hpq hq => ?_, fun k hk => ?_⟩, fun p hp hq => ⟨rotI a (a + 1) i p, ?_, ?_, h0 p⟩⟩
  · rw [h0, h0]
    rcases Nat.lt_or_ge q (i - 1) with h | h
    · rw [show rotI a (a + 1) i p = p + 1 by unfold rotI; (repeat' split) <;> omega, show rotI a (a + 1) i q = q + 1 by unfold rotI; (repeat' split) <;> omega]
      exact hs _ _ (by omega) (by omega) (by omega)
    · rcases Nat.lt_or_ge p (i - 1) with h' | h'
      · rw [show rotI a (a + 1) i p = p + 1 by unfold rotI; (repeat' split) <;> omega]
        rcases Nat.lt_or_ge (i - 1) q with h'' | h''
        · rw [show rotI a (a + 1) i q = q by unfold rotI; (repeat' split) <;> omega]
          exact hs.le (by omega) (by omega) hq
        · rw [show rotI a (a + 1) i q = a by unfold rotI; (repeat' split) <;> omega]
          exact hl _ (by omega) (by omega)
      · rw [show rotI a (a + 1) i q = q by unfold rotI; (repeat' split) <;> omega]
        rcases Nat.lt_or_ge (i - 1) p with h'' | h''
        · rw [show rotI a (a + 1) i p = p by unfold rotI; (repeat' split) <;> omega]
          exact hs _ _ (by omega) hpq hq
        · rw [show rotI a (a + 1) i p = a by unfold rotI; (repeat' split) <;> omega]
          exact hr _ (by omega) hq
  · rw [h0, show rotI a (a + 1) i k = k by unfold rotI; (repeat' split) <;> omega]
  · unfold rotI; (repeat' split) <;> omega
  · unfold rotI; (repeat' split) <;> omega
/-- One element goes ahead of all that are greater: x[m] into the sorted [a, m), to place i. -/
theorem one_down {a m i : Nat} {xs zs : List Ver} (hs : SortedOn a m xs) (hb : m < xs.length) (h1 : a ≤ i) (h2 : i ≤ m) (hl : ∀ k, a ≤ k → k < i → leV (el xs k) (el xs m)) (hr : ∀ k, i ≤ k → k < m → leV (el xs m) (el xs k)) (hm : Maps (rotI i m (m + 1)) xs zs) : SM a (m + 1) xs zs := by
  have h0 : ∀ k, el zs k = el xs (rotI i m (m + 1) k) := hm.el
  refine ⟨⟨hm.perm, fun p q hp hpq hq => ?_, fun k hk => ?_⟩, fun p hp hq => ⟨rotI i m (m + 1) p, ?_, ?_, h0 p⟩⟩
  · rw [h0, h0]
    rcases Nat.lt_or_ge q i with h | h
    · rw [show rotI i m (m + 1) p = p by unfold rotI; (repeat' split) <;> omega, show rotI i m (m + 1) q = q by unfold rotI; (repeat' split) <;> omega]
      exact hs _ _ hp hpq (by omega)
    · rcases Nat.lt_or_ge p i with h' | h'
      · rw [show rotI i m (m + 1) p = p by unfold rotI; (repeat' split) <;> omega]
        rcases Nat.lt_or_ge i q with h'' | h''
        · rw [show rotI i m (m + 1) q = q - 1 by unfold rotI; (repeat' split) <;> omega]
          exact hs.le hp (by omega) (by omega)
        · rw [show rotI i m (m + 1) q = m by unfold rotI; (repeat' split) <;> omega]
          exact hl _ hp (by omega)
      · rw [show rotI i m (m + 1) q = q - 1 by unfold rotI; (repeat' split) <;> omega]
        rcases Nat.lt_or_ge i p with h'' | h''
        · rw [show rotI i m (m + 1) p = p - 1 by unfold rotI; (repeat' split) <;> omega]
          exact hs _ _ (by omega) (by omega) (by omega)
        · rw [show rotI i m (m + 1) p = m by unfold rotI; (repeat' split) <;> omega]
          exact hr _ (by omega) (by omega)
  · rw [h0, show rotI i m (m + 1) k = k by unfold rotI; (repeat' split) <;> omega]
  · unfold rotI; (repeat' split) <;> omega
  · unfold rotI; (repeat' split) <;> omega
/-- Two sorted ranges, the left no greater than the right. -/
theorem glue {a c b : Nat} {xs : List Ver} (h1 : SortedOn a c xs) (h2 : SortedOn c b xs) (h3 : ∀ p q, a ≤ p → p < c → c ≤ q → q < b → leV (el xs p) (el xs q)) : SortedOn a b xs := fun p q hp hpq hq => by
  rcases Nat.lt_or_ge q c with h | h
  · exact h1 p q hp hpq h
  · rcases Nat.lt_or_ge p c with h' | h'
    · exact h3 p q hp h' h hq
    · exact h2 p q h' hpq hq
/-- What the search in the middle finds. -/
structure Cut (a m b mid start : Nat) (xs : List Ver) : Prop where
  ha : a ≤ start
  hm : start ≤ m
  he : m ≤ mid + m - start
  hb : mid + m - start ≤ b
  left : a < start → mid + m - start < b → leV (el xs (start - 1)) (el xs (mid + m - start))
  right : start < m → m < mid + m - start → leV (el xs (mid + m - start - 1)) (el xs start)
/-- Behind the rotation all of the left half is no greater than all of the right half. -/
theorem cut_halves {a m b mid start : Nat} {xs ys : List Ver} (h1 : SortedOn a m xs) (h2 : SortedOn m b xs) (hc : Cut a m b mid start xs) (hmid : a ≤ mid) (hy : Maps (rotI start m (mid + m - start)) xs ys) :
    SortedOn a start ys ∧ SortedOn start mid ys ∧ SortedOn mid (mid + m - start) ys ∧ SortedOn (mid + m - start) b ys ∧ ∀ p q, a ≤ p → p < mid → mid ≤ q → q < b → leV (el ys p) (el ys q) := by
  obtain ⟨ha, hm, he, hb, hl, hr⟩ := hc
  have e1 : ∀ k, k < start ∨ mid + m - start ≤ k → el ys k = el xs k := fun k hk => by
    rw [hy.el, show rotI start m (mid + m - start) k = k by unfold rotI; (repeat' split) <;> omega]
  have e2 : ∀ k, start ≤ k → k < mid → el ys k = el xs (k + (m - start)) := fun k hk1 hk2 => by
    rw [hy.el, show rotI start m (mid + m - start) k = k + (m - start) by unfold rotI; (repeat' split) <;> omega]
  have e3 : ∀ k, mid ≤ k → k < mid + m - start → el ys k = el xs (k - (mid - start)) := fun k hk1 hk2 => by
    rw [hy.el, show rotI start m (mid + m - start) k = k - (mid - start) by unfold rotI; (repeat' split) <;> omega]
  refine ⟨fun p q hp hpq hq => ?_, fun p q hp hpq hq => ?_, fun p q hp hpq hq => ?_, fun p q hp hpq hq => ?_, fun p q hp hpm hmq hq => ?_⟩
  · rw [e1 p (by omega), e1 q (by omega)]; exact h1 p q hp hpq (by omega)
  · rw [e2 p hp (by omega), e2 q (by omega) hq]; exact h2 _ _ (by omega) (by omega) (by omega)
  · rw [e3 p hp (by omega), e3 q (by omega) hq]; exact h1 _ _ (by omega) (by omega) (by omega)
  · rw [e1 p (by omega), e1 q (by omega)]; exact h2 p q (by omega) hpq hq
  · rcases Nat.lt_or_ge p start with hps | hps
    · rw [e1 p (.inl hps)]
      rcases Nat.lt_or_ge q (mid + m - start) with hqe | hqe
      · rw [e3 q hmq hqe]; exact h1.le hp (by omega) (by omega)
      · rw [e1 q (.inr hqe)]
        exact ((h1.le (q := start - 1) hp (by omega) (by omega)).trans (hl (by omega) (by omega))).trans (h2.le (by omega) hqe hq)
    · rw [e2 p hps hpm]
      rcases Nat.lt_or_ge q (mid + m - start) with hqe | hqe
      · rw [e3 q hmq hqe]
        exact ((h2.le (q := mid + m - start - 1) (by omega) (by omega) (by omega)).trans (hr (by omega) (by omega))).trans (h1.le (by omega) (by omega) (by omega))
      · rw [e1 q (.inr hqe)]; exact h2.le (by omega) (by omega) hq
/-- The two halves sorted each by itself. -/
theorem SM.both {a mid b : Nat} {xs ys u v : List Ver} (hperm : ys.Perm xs) (hel : ∀ k, k < a ∨ b ≤ k → el ys k = el xs k) (hrng : ∀ p, a ≤ p → p < b → ∃ q, a ≤ q ∧ q < b ∧ el ys p = el xs q)
    (hx : ∀ p q, a ≤ p → p < mid → mid ≤ q → q < b → leV (el ys p) (el ys q)) (h1 : SM a mid ys u) (h2 : SM mid b u v) (ham : a ≤ mid) (hmb : mid ≤ b) : SM a b xs v := by
  have eL : ∀ p, a ≤ p → p < mid → ∃ q, a ≤ q ∧ q < mid ∧ el v p = el ys q := fun p hp hq => by
    obtain ⟨q, q1, q2, q3⟩ := h1.rng p hp hq
    exact ⟨q, q1, q2, by rw [h2.el p (.inl hq), q3]⟩
  have eR : ∀ p, mid ≤ p → p < b → ∃ q, mid ≤ q ∧ q < b ∧ el v p = el ys q := fun p hp hq => by
    obtain ⟨q, q1, q2, q3⟩ := h2.rng p hp hq
    exact ⟨q, q1, q2, by rw [q3, h1.el q (.inr q1)]⟩
  refine ⟨⟨(h2.perm.trans h1.perm).trans hperm, glue (h1.sort.of_el fun k k1 k2 => h2.el k (.inl k2)) h2.sort fun p q p1 p2 q1 q2 => ?_, fun k hk => ?_⟩, fun p p1 p2 => ?_⟩
  · obtain ⟨p', a1, a2, a3⟩ := eL p p1 p2
    obtain ⟨q', b1, b2, b3⟩ := eR q q1 q2
    rw [a3, b3]; exact hx p' q' a1 a2 b1 b2
  · rw [h2.el k (by omega), h1.el k (by omega), hel k hk]
  · have : ∃ q, a ≤ q ∧ q < b ∧ el v p = el ys q := by
      rcases Nat.lt_or_ge p mid with h | h
      · obtain ⟨q, q1, q2, q3⟩ := eL p p1 h; exact ⟨q, q1, by omega, q3⟩
      · obtain ⟨q, q1, q2, q3⟩ := eR p h p2; exact ⟨q, by omega, q2, q3⟩
    obtain ⟨q, q1, q2, q3⟩ := this
    obtain ⟨r, r1, r2, r3⟩ := hrng q q1 q2
    exact ⟨r, r1, r2, by rw [q3, r3]⟩
theorem SM.same {a b : Nat} {xs : List Ver} (h : SortedOn a b xs) : SM a b xs xs := ⟨⟨.refl _, h, fun _ _ => rfl⟩, fun p h1 h2 => ⟨p, h1, h2, rfl⟩⟩
end Go.Proofs.Ytndlhmnablefpaa
