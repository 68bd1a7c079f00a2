/- Reading one thing after the other, with the first error kept: plain lists. No program in sight. -/
import Derived.Test.YtndlhmnablefpaaDecT
namespace Go.Proofs.Ytndlhmnablefpaa
open Go.RowKit
set_option linter.unusedSimpArgs false
set_option linter.unusedVariables false
/-- A source: its first error, or its offset. -/
abbrev St := Except Int Nat
def rdS {α : Type} (d : Nat → Rd α) (z : α) : St → α × St
  | .error e => (z, .error e)
  | .ok p => match d p with
    | .error e => (z, .error e)
    | .ok (v, k) => (v, .ok k)
theorem rdS_err {α : Type} {d : Nat → Rd α} {z : α} {e : Int} : rdS d z (.error e) = (z, .error e) := rfl
theorem rdS_ok {α : Type} {d : Nat → Rd α} {z : α} {p : Nat} {v : α} {k : Nat} (h : d p = .ok (v, k)) : rdS d z (.ok p) = (v, .ok k) := by simp only [rdS, h]
theorem rdS_no {α : Type} {d : Nat → Rd α} {z : α} {p : Nat} {e : Int} (h : d p = .error e) : rdS d z (.ok p) = (z, .error e) := by simp only [rdS, h]
def verOf (id sch : Int) (row : List Vl) (v s : Int × Int) (b u : Int) : PVer := ⟨id, sch, row, v.1, v.2, s.1, s.2, b, u⟩
/-- What reader.version reads. -/
def sVer (b : List UInt8) (σ : St) : PVer × St :=
  let a1 := rdS (dInt b) 0 σ
  let a2 := rdS (dInt b) 0 a1.2
  let a3 := rdS (dRow b) [] a2.2
  let a4 := rdS (dPer b) (0, 0) a3.2
  let a5 := rdS (dPer b) (0, 0) a4.2
  let a6 := rdS (dInt b) 0 a5.2
  let a7 := rdS (dInt b) 0 a6.2
  (verOf a1.1 a2.1 a3.1 a4.1 a5.1 a6.1 a7.1, a7.2)
/-- The same, in one. -/
theorem sVer_dVer (b : List UInt8) (p : Nat) : (∀ e, dVer b p = .error e → (sVer b (.ok p)).2 = .error e) ∧ (∀ v k, dVer b p = .ok (v, k) → sVer b (.ok p) = (v, .ok k)) := by
  unfold dVer sVer
  cases h1 : dInt b p with
  | error e => simp [rdS_no h1, rdS_err]
  | ok r1 =>
    obtain ⟨id, p1⟩ := r1
    simp only [rdS_ok h1]
    cases h2 : dInt b p1 with
    | error e => simp [rdS_no h2, rdS_err]
    | ok r2 =>
      obtain ⟨sch, p2⟩ := r2
      simp only [rdS_ok h2]
      cases h3 : dRow b p2 with
      | error e => simp [rdS_no h3, rdS_err]
      | ok r3 =>
        obtain ⟨row, p3⟩ := r3
        simp only [rdS_ok h3]
        cases h4 : dPer b p3 with
        | error e => simp [rdS_no h4, rdS_err]
        | ok r4 =>
          obtain ⟨v, p4⟩ := r4
          simp only [rdS_ok h4]
          cases h5 : dPer b p4 with
          | error e => simp [rdS_no h5, rdS_err]
          | ok r5 =>
            obtain ⟨s, p5⟩ := r5
            simp only [rdS_ok h5]
            cases h6 : dInt b p5 with
            | error e => simp [rdS_no h6, rdS_err]
            | ok r6 =>
              obtain ⟨y, p6⟩ := r6
              simp only [rdS_ok h6]
              cases h7 : dInt b p6 with
              | error e => simp [rdS_no h7]
              | ok r7 =>
                obtain ⟨u, p7⟩ := r7
                simp [rdS_ok h7, verOf]
theorem dMany_ok {α : Type} {b : List UInt8} {d : Nat → Rd α} (hd : ∀ p v k, d p = .ok (v, k) → p ≤ k ∧ k ≤ b.length) : ∀ (n p : Nat) (acc l : List α) (k : Nat), p ≤ b.length → dMany d n p acc = .ok (l, k) → p ≤ k ∧ k ≤ b.length ∧ l.length = acc.length + n
  | 0, p, acc, l, k, hp, h => by
    simp only [dMany, Except.ok.injEq, Prod.mk.injEq] at h
    obtain ⟨rfl, rfl⟩ := h
    exact ⟨Nat.le_refl _, hp, rfl⟩
  | n + 1, p, acc, l, k, hp, h => by
    rw [dMany] at h
    split at h
    · simp at h
    rename_i v q hv
    obtain ⟨h1, h2⟩ := hd p v q hv
    obtain ⟨h3, h4, h5⟩ := dMany_ok hd n q _ l k h2 h
    refine ⟨by omega, h4, ?_⟩
    rw [h5]; simp; omega
theorem dMany_err {α : Type} {d : Nat → Rd α} (hd : ∀ p e, d p = .error e → 0 < e) : ∀ (n p : Nat) (acc : List α) (e : Int), dMany d n p acc = .error e → 0 < e
  | 0, p, acc, e, h => by simp [dMany] at h
  | n + 1, p, acc, e, h => by
    rw [dMany] at h
    split at h
    · rename_i e' he
      simp only [Except.error.injEq] at h
      subst h
      exact hd p _ he
    · exact dMany_err hd n _ _ e h
theorem dText_ok {b : List UInt8} {p : Nat} {m : Int} {s : List UInt8} {k : Nat} (h : dText b p m = .ok (s, k)) : p < k ∧ k ≤ b.length ∧ (s.length : Int) ≤ max m 0 := by
  unfold dText at h
  split at h
  · simp at h
  rename_i n q hq
  obtain ⟨_, h1, h2⟩ := dInt_ok hq
  split at h
  · simp at h
  split at h
  · simp at h
  split at h
  · simp at h
  simp only [Except.ok.injEq, Prod.mk.injEq] at h
  obtain ⟨rfl, rfl⟩ := h
  refine ⟨by omega, by omega, ?_⟩
  simp only [List.length_take, List.length_drop]
  omega
theorem dText_err {b : List UInt8} {p : Nat} {m : Int} {e : Int} (h : dText b p m = .error e) : 0 < e := by
  unfold dText at h
  split at h
  · rename_i e' he
    simp only [Except.error.injEq] at h
    subst h
    have := dInt_err he
    omega
  split at h
  · simp only [Except.error.injEq] at h; omega
  split at h
  · simp only [Except.error.injEq] at h; omega
  split at h
  · simp only [Except.error.injEq] at h; omega
  · simp at h
theorem dVal_ok {b : List UInt8} {p : Nat} {v : Vl} {k : Nat} (h : dVal b p = .ok (v, k)) : p < k ∧ k ≤ b.length := by
  unfold dVal at h
  split at h
  · simp at h
  split at h
  · simp at h
  rename_i c hc
  have hp : p < b.length := (List.getElem?_eq_some_iff.1 hc).1
  split at h
  · simp only [Except.ok.injEq, Prod.mk.injEq] at h; omega
  split at h
  · split at h
    · simp at h
    rename_i n q hq
    obtain ⟨_, h1, h2⟩ := dInt_ok hq
    split at h
    · simp at h
    · simp only [Except.ok.injEq, Prod.mk.injEq] at h; omega
  split at h
  · split at h
    · simp at h
    rename_i n q hq
    obtain ⟨h1, h2, _⟩ := dText_ok hq
    split at h
    · simp only [Except.ok.injEq, Prod.mk.injEq] at h; omega
    · simp at h
  split at h
  · simp only [Except.ok.injEq, Prod.mk.injEq] at h; omega
  · simp at h
theorem dVal_err {b : List UInt8} {p : Nat} {e : Int} (h : dVal b p = .error e) : 0 < e := by
  unfold dVal at h
  split at h
  · simp only [Except.error.injEq] at h; omega
  split at h
  · simp only [Except.error.injEq] at h; omega
  split at h
  · simp at h
  split at h
  · split at h
    · rename_i e' he
      simp only [Except.error.injEq] at h
      subst h
      have := dInt_err he
      omega
    split at h
    · simp only [Except.error.injEq] at h; omega
    · simp at h
  split at h
  · split at h
    · rename_i e' he
      simp only [Except.error.injEq] at h
      subst h
      exact dText_err he
    split at h
    · simp at h
    · simp only [Except.error.injEq] at h; omega
  split at h
  · simp at h
  · simp only [Except.error.injEq] at h; omega
theorem dRow_ok {b : List UInt8} {p : Nat} {v : List Vl} {k : Nat} (h : dRow b p = .ok (v, k)) : p < k ∧ k ≤ b.length ∧ v.length ≤ 12 := by
  unfold dRow at h
  split at h
  · simp at h
  rename_i n q hq
  obtain ⟨_, h1, h2⟩ := dInt_ok hq
  split at h
  · simp at h
  split at h
  · simp at h
  obtain ⟨h3, h4, h5⟩ := dMany_ok (b := b) (fun p v k hv => by have := dVal_ok hv; omega) _ _ _ _ _ h2 h
  simp only [List.length_nil] at h5
  omega
theorem dRow_err {b : List UInt8} {p : Nat} {e : Int} (h : dRow b p = .error e) : 0 < e := by
  unfold dRow at h
  split at h
  · rename_i e' he
    simp only [Except.error.injEq] at h
    subst h
    have := dInt_err he
    omega
  split at h
  · simp only [Except.error.injEq] at h; omega
  split at h
  · simp only [Except.error.injEq] at h; omega
  · exact dMany_err (fun p e he => dVal_err he) _ _ _ _ h
theorem dPer_ok {b : List UInt8} {p : Nat} {v : Int × Int} {k : Nat} (h : dPer b p = .ok (v, k)) : p < k ∧ k ≤ b.length ∧ okPer v.1 v.2 = true := by
  unfold dPer at h
  split at h
  · simp at h
  rename_i n q hq
  obtain ⟨_, h1, h2⟩ := dInt_ok hq
  split at h
  · simp at h
  rename_i n2 q2 hq2
  obtain ⟨_, h3, h4⟩ := dInt_ok hq2
  split at h
  · rename_i ho
    simp only [Except.ok.injEq, Prod.mk.injEq] at h
    obtain ⟨rfl, rfl⟩ := h
    exact ⟨by omega, by omega, ho⟩
  · simp at h
theorem dPer_err {b : List UInt8} {p : Nat} {e : Int} (h : dPer b p = .error e) : 0 < e := by
  unfold dPer at h
  split at h
  · rename_i e' he
    simp only [Except.error.injEq] at h
    subst h
    have := dInt_err he
    omega
  split at h
  · rename_i e' he
    simp only [Except.error.injEq] at h
    subst h
    have := dInt_err he
    omega
  split at h
  · simp at h
  · simp only [Except.error.injEq] at h; omega
theorem dVer_ok {b : List UInt8} {p : Nat} {v : PVer} {k : Nat} (h : dVer b p = .ok (v, k)) : p < k ∧ k ≤ b.length := by
  unfold dVer at h
  split at h
  · simp at h
  rename_i a1 p1 h1
  split at h
  · simp at h
  rename_i a2 p2 h2
  split at h
  · simp at h
  rename_i a3 p3 h3
  split at h
  · simp at h
  rename_i a4 p4 h4
  split at h
  · simp at h
  rename_i a5 p5 h5
  split at h
  · simp at h
  rename_i a6 p6 h6
  split at h
  · simp at h
  rename_i a7 p7 h7
  simp only [Except.ok.injEq, Prod.mk.injEq] at h
  have := dInt_ok h1
  have := dInt_ok h2
  have := dRow_ok h3
  have := dPer_ok h4
  have := dPer_ok h5
  have := dInt_ok h6
  have := dInt_ok h7
  omega
end Go.Proofs.Ytndlhmnablefpaa
