/- What codec's Text and Period answer. -/
import Derived.Test.YtndlhmnablefpaaDecI
import Derived.Test.YtndlhmnablefpaaSub
namespace Go.Proofs.Ytndlhmnablefpaa
open Go.RowKit
set_option linter.unusedSimpArgs false
set_option linter.unusedVariables false
theorem dU_lt {α : Type} : ∀ (l : List UInt8) (i z : Nat) (u k : Nat), dU l i z = .ok (u, k) → i < k ∧ k ≤ i + l.length
  | [], i, z, u, k, h => by simp [dU] at h
  | c :: cs, i, z, u, k, h => by
    rw [dU_cons] at h
    split at h
    · simp at h
    split at h
    · simp only [Except.ok.injEq, Prod.mk.injEq] at h
      simp only [List.length_cons]
      omega
    · have := dU_lt (α := α) cs _ _ u k h
      simp only [List.length_cons]
      omega
theorem dU_err : ∀ (l : List UInt8) (i z : Nat) (e : Int), dU l i z = .error e → e = 1 ∨ e = 2
  | [], i, z, e, h => by simp [dU] at h; exact .inr h.symm
  | c :: cs, i, z, e, h => by
    rw [dU_cons] at h
    split at h
    · simp at h; exact .inl h.symm
    split at h
    · simp at h
    · exact dU_err cs _ _ e h
theorem dU_u64 : ∀ (l : List UInt8) (i z : Nat) (u k : Nat), z < 128 ^ i → i ≤ 9 → dU l i z = .ok (u, k) → u < 18446744073709551616
  | [], i, z, u, k, _, _, h => by simp [dU] at h
  | c :: cs, i, z, u, k, hz, hi, h => by
    rw [dU_cons] at h
    split at h
    · simp at h
    rename_i hb
    have h9 : i = 9 → c.toNat ≤ 1 := fun h' => by
      rcases Nat.lt_or_ge 1 c.toNat with h'' | h''
      · exact absurd ((badU_iff i c).2 (.inl ⟨h', h''⟩)) hb
      · exact h''
    obtain ⟨_, h2, h3⟩ := or_next hz hi c.toNat_lt h9
    split at h
    · simp only [Except.ok.injEq, Prod.mk.injEq] at h
      rw [← h.1]; exact h3
    · refine dU_u64 cs _ _ u k h2 ?_ h
      rcases Nat.lt_or_ge i 9 with h' | h'
      · omega
      · have := h9 (by omega)
        omega
/-- A number that is read: an int; the offset moves on, and stays inside. -/
theorem dInt_ok {b : List UInt8} {p : Nat} {n : Int} {k : Nat} (h : dInt b p = .ok (n, k)) : I64 n ∧ p < k ∧ k ≤ b.length := by
  unfold dInt at h
  split at h
  · simp at h
  rename_i hp
  split at h
  · simp at h
  rename_i u k' hu
  simp only [Except.ok.injEq, Prod.mk.injEq] at h
  obtain ⟨rfl, rfl⟩ := h
  have h1 := dU_lt (α := Unit) _ _ _ _ _ hu
  have h2 := dU_u64 _ 0 0 _ _ (by decide) (by decide) hu
  rw [List.length_drop] at h1
  refine ⟨⟨?_, ?_⟩, by omega, by omega⟩ <;> unfold zag <;> split <;> omega
theorem dInt_err {b : List UInt8} {p : Nat} {e : Int} (h : dInt b p = .error e) : e = 1 ∨ e = 2 ∨ e = 6 := by
  unfold dInt at h
  split at h
  · simp at h; exact .inr (.inr h.symm)
  split at h
  · rename_i e' he
    simp only [Except.error.injEq] at h
    subst h
    rcases dU_err _ _ _ _ he with h | h <;> omega
  · simp at h
def vText (s : List UInt8) : Value := .string ⟨s.toArray⟩
/-- The answer of a call, by the cases of what is read. -/
theorem rdV_err {α : Type} {f : α → Value} {z : Value} {r : Rd α} {e : Int} (h : r = .error e) : rdV f z r = .tuple #[z, .int .i64 0, .int .i64 e] := by rw [h]; rfl
theorem rdV_ok {α : Type} {f : α → Value} {z : Value} {r : Rd α} {v : α} {k : Nat} (h : r = .ok (v, k)) : rdV f z r = .tuple #[f v, .int .i64 (k : Int), .int .i64 0] := by rw [h]; rfl
set_option maxRecDepth 100000 in
set_option maxHeartbeats 1000000 in
theorem cText_any (s : Sl UInt8) (p : Nat) (most : Int) (w : World) (h : kByte.Inv w s) (hp : p ≤ 9223372036854775807) :
    Ans Try.prog 85 #[.slice s.A s.xs.length s.cap, .int .i64 (p : Int), .int .i64 most] w (rdV vText (.string ⟨#[]⟩) (dText s.xs p most)) := by
  unfold Ans
  have HI := Lib.hid h
  have hle := h.le
  have hmx : s.cap ≤ 9223372036854775807 := h.mx
  clear h
  go_enter Try.func85, Try.ntmps85
  go_wp2_with fail
  cases hd : dInt s.xs p with
  | error e =>
    have HD := Lib.hid hd
    have HX : Hid (dText s.xs p most = .error e) := by show _ = _; unfold dText; rw [hd]
    have he : ¬ e = 0 := by have := dInt_err hd; omega
    clear hd
    refine Calls.mono (cInt_any s p _ HI.out hp) ?_
    rintro e1 w1 ⟨rfl, hb⟩
    rw [rdV_err HD.out]
    go_wp2_with fail
    go_ret3
    exact ⟨by rw [rdV_err HX.out]; rfl, hb⟩
  | ok r =>
    obtain ⟨n, k⟩ := r
    have HD := Lib.hid hd
    obtain ⟨hn, hk1, hk2⟩ := dInt_ok hd
    have HX : Hid (dText s.xs p most = if n < 0 then .error 1 else if max most 0 < n then .error 5 else if ((s.xs.length - k : Nat) : Int) < n then .error 2 else .ok ((s.xs.drop k).take n.toNat, k + n.toNat)) := by show _ = _; unfold dText; rw [hd]
    have hn1 := hn.lo
    have hn2 := hn.hi
    clear hd
    refine Calls.mono (cInt_any s p _ HI.out hp) ?_
    rintro e1 w1 ⟨rfl, hb⟩
    rw [rdV_ok HD.out]
    unfold vInt
    by_cases h0 : n < 0
    · go_wp2_with fail
      go_ret3
      exact ⟨by rw [rdV_err (HX.out.trans (if_pos (by assumption)))]; rfl, hb⟩
    have HN0 := Lib.hid h0
    by_cases h1 : max most 0 < n
    · have h1' : max 0 most < n := by omega
      have HX5 : Hid (dText s.xs p most = .error 5) := by show _ = _; rw [HX.out, if_neg h0, if_pos h1]
      go_wp2_with fail
      all_goals
        go_ret3
        exact ⟨by rw [rdV_err HX5.out]; rfl, hb⟩
    have HN1 := Lib.hid h1
    by_cases h2 : ((s.xs.length - k : Nat) : Int) < n
    · have h2' : (s.xs.length : Int) - (k : Int) < n := by omega
      have HX2 : Hid (dText s.xs p most = .error 2) := by show _ = _; rw [HX.out, if_neg h0, if_neg h1, if_pos h2]
      have hx1 : IntKind.i64.wrap ((s.xs.length : Int) - (k : Int)) = (s.xs.length : Int) - (k : Int) := IntWalk.i64_in _ (by omega)
      go_wp2_with fail
      go_ret3
      exact ⟨by rw [rdV_err HX2.out]; rfl, hb⟩
    · have h2' : ¬ (s.xs.length : Int) - (k : Int) < n := by omega
      obtain ⟨m, rfl⟩ : ∃ m : Nat, n = (m : Int) := ⟨n.toNat, by omega⟩
      have HX0 : Hid (dText s.xs p most = .ok ((s.xs.drop k).take m, k + m)) := by show _ = _; rw [HX.out, if_neg h0, if_neg h1, if_neg h2, Int.toNat_natCast]
      have hkm : k + m ≤ s.xs.length := by omega
      have hx1 : IntKind.i64.wrap ((s.xs.length : Int) - (k : Int)) = (s.xs.length : Int) - (k : Int) := IntWalk.i64_in _ (by omega)
      have hx2 : IntKind.i64.wrap ((k : Int) + (m : Int)) = (k : Int) + (m : Int) := IntWalk.i64_in _ (by omega)
      have h1' : ¬ max 0 most < (m : Int) := by omega
      have HE : Hid (((k : Int) + (m : Int)) = ((k + m : Nat) : Int)) := by show _ = _; omega
      obtain ⟨b, o, hA, _, _⟩ := byte_at HI.out p (by omega)
      have HA := Lib.hid hA
      clear HX h0 h1 h2 HN0 HN1 hn
      rw [hA]
      clear hA
      by_cases hcp : s.cap = k
      · obtain rfl : m = 0 := by omega
        have HT : Hid ((s.xs.drop k).take 0 = []) := rfl
        have hcv := convert_bytes (w := w1) (A := some ⟨b, o, none⟩) (c := 0) (ys := []) (Kd.Inv.empty _ _ (by decide) (fun h => by cases h)) 0 rfl
        have hkl : s.xs.length = k := by omega
        go_wp2_with fail
        all_goals
          go_ret3
          exact ⟨by rw [rdV_ok HX0.out, HT.out]; rfl, hb⟩
      · have hcv := convert_bytes (kByte_sub (HI.out.below hb) HA.out k m hkm) m (by simp; omega)
        go_wp2_with fail
        all_goals
          go_ret3
          exact ⟨by rw [rdV_ok HX0.out, ← HE.out]; rfl, hb⟩
end Go.Proofs.Ytndlhmnablefpaa
