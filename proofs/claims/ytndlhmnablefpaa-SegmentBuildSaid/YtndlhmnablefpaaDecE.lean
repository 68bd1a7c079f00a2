/- Errors and bounds of the segment's readers. No program in sight. -/
import Derived.Test.YtndlhmnablefpaaSegP
import Derived.Test.YtndlhmnablefpaaSrcP
import Derived.Test.YtndlhmnablefpaaSrc1
namespace Go.Proofs.Ytndlhmnablefpaa
open Go.RowKit
set_option linter.unusedSimpArgs false
set_option linter.unusedVariables false
theorem dFrame_err {b : List UInt8} {p : Nat} {e : Int} (h : dFrame b p = .error e) : 0 < e := by
  unfold dFrame at h
  (repeat' split at h) <;> simp only [Except.error.injEq, reduceCtorEq] at h <;> omega
theorem dFrame_ok {b : List UInt8} {p : Nat} {x : List UInt8} {k : Nat} (h : dFrame b p = .ok (x, k)) : k = p + 8 + x.length ∧ k ≤ b.length ∧ x.length ≤ 1048576 := by
  unfold dFrame at h
  split at h
  · simp at h
  split at h
  · simp at h
  split at h
  · simp at h
  split at h
  · simp at h
  split at h
  · simp at h
  simp only [Except.ok.injEq, Prod.mk.injEq] at h
  obtain ⟨rfl, rfl⟩ := h
  have : ((b.drop (p + 8)).take (num4 (b.drop p))).length = num4 (b.drop p) := by
    rw [List.length_take, List.length_drop]; omega
  rw [this]
  omega
theorem dPers_err {b : List UInt8} : ∀ (n p : Nat) (e : Int), dPers b n p = .error e → 0 < e
  | 0, p, e, h => by simp [dPers] at h
  | n + 1, p, e, h => by
    rw [dPers] at h
    split at h
    · rename_i e' he
      simp only [Except.error.injEq] at h
      subst h
      exact dPer_err he
    · split at h
      · rename_i e' he
        simp only [Except.error.injEq] at h
        subst h
        exact dPer_err he
      · exact dPers_err n _ e h
theorem dHead_err {b : List UInt8} {e : Int} (h : dHead b = .error e) : 0 < e := by
  unfold dHead at h
  split at h
  · rename_i e' he
    simp only [Except.error.injEq] at h
    subst h
    exact dText_err he
  split at h
  · rename_i e' he
    simp only [Except.error.injEq] at h
    subst h
    have := dInt_err he
    omega
  split at h
  · simp only [Except.error.injEq] at h; omega
  split at h
  · rename_i e' he
    simp only [Except.error.injEq] at h
    subst h
    have := dInt_err he
    omega
  split at h
  · simp only [Except.error.injEq] at h; omega
  split at h
  · rename_i e' he
    simp only [Except.error.injEq] at h
    subst h
    exact dPers_err _ _ _ he
  split at h
  · simp only [Except.error.injEq] at h; omega
  · simp at h
theorem dHead_text {b t : List UInt8} {n : Nat} (h : dHead b = .ok (t, n)) : t.length ≤ 200 := by
  unfold dHead at h
  split at h
  · simp at h
  rename_i t' p ht
  split at h
  · simp at h
  split at h
  · simp at h
  split at h
  · simp at h
  split at h
  · simp at h
  split at h
  · simp at h
  split at h
  · simp at h
  simp only [Except.ok.injEq, Prod.mk.injEq] at h
  have := (dText_ok ht).2.2
  rw [← h.1]
  omega
theorem chk_pos {ok : PVer → Bool} : ∀ (l : List PVer) (p : Option PVer), 0 ≤ chk ok p l
  | [], _ => Int.le_refl _
  | v :: l, p => by
    rw [chk_cons]
    split
    · decide
    split
    · decide
    · exact chk_pos l _
theorem decVers_err {b : List UInt8} {e : Int} (h : decVers b = .error e) : 0 < e := by
  rw [decVers_get] at h
  split at h
  · simp only [Except.error.injEq] at h; omega
  split at h
  · rename_i e' he
    simp only [Except.error.injEq] at h
    subst h
    exact dGet_err he
  split at h
  · simp only [Except.error.injEq] at h; omega
  split at h
  · simp only [Except.error.injEq] at h; omega
  split at h
  · rename_i hc
    simp only [Except.error.injEq] at h
    have := chk_pos (ok := okVer) (by assumption) none
    omega
  · simp at h
theorem dMany_count {α : Type} {b : List UInt8} {d : Nat → Rd α} (hd : ∀ p v k, d p = .ok (v, k) → p < k ∧ k ≤ b.length) : ∀ (n p : Nat) (acc l : List α) (k : Nat), dMany d n p acc = .ok (l, k) → l.length ≤ acc.length + (k - p) ∧ p ≤ k
  | 0, p, acc, l, k, h => by
    simp only [dMany, Except.ok.injEq, Prod.mk.injEq] at h
    obtain ⟨rfl, rfl⟩ := h
    omega
  | n + 1, p, acc, l, k, h => by
    rw [dMany] at h
    split at h
    · simp at h
    rename_i v q hv
    obtain ⟨h1, h2⟩ := dMany_count hd n q _ l k h
    have h3 := hd p v q hv
    rw [List.length_append, List.length_singleton] at h1
    omega
/-- There are no more versions than bytes. -/
theorem decVers_count {b : List UInt8} {l : List PVer} (h : decVers b = .ok l) : l.length ≤ b.length := by
  rw [decVers_get] at h
  split at h
  · simp at h
  split at h
  · simp at h
  rename_i l' p hg
  split at h
  · simp at h
  split at h
  · simp at h
  split at h
  · simp at h
  simp only [Except.ok.injEq] at h
  subst h
  unfold dGet at hg
  split at hg
  · simp at hg
  rename_i n k hn
  split at hg
  · simp at hg
  have h1 := dMany_count (b := b) (fun p v k hv => dVer_ok hv) _ _ _ _ _ hg
  have h2 := dMany_ok (b := b) (fun p v k hv => ⟨Nat.le_of_lt (dVer_ok hv).1, (dVer_ok hv).2⟩) _ _ _ _ _ (dInt_ok hn).2.2 hg
  simp at h1
  omega
theorem dBlocks_next (b : List UInt8) (n p : Nat) (acc : List (List PVer)) : dBlocks b (n + 1) p acc = match dFrame b p with
    | .error e => .error e
    | .ok (x, k) => match decVers x with
      | .error e => .error e
      | .ok l => dBlocks b n k (acc ++ [l]) := rfl
theorem sizeOf_snoc (acc : List (List PVer)) (l : List PVer) : sizeOfBlocks (acc ++ [l]) = if acc = [] then max 1 l.length else sizeOfBlocks acc := by
  cases acc with
  | nil => rfl
  | cons x t => rfl
end Go.Proofs.Ytndlhmnablefpaa
