/- What compaction.Choose answers. -/
import Derived.Test.YtndlhmnablefpaaChoose2
namespace Go.Proofs.Ytndlhmnablefpaa
open Go.RowKit
set_option linter.unusedSimpArgs false
set_option linter.unusedVariables false
theorem seg_snoc {xs : List Int} {i j : Nat} (hij : i ≤ j) (hj : j < xs.length) : seg xs i (j + 1) = seg xs i j ++ [xs[j]] := by
  rw [seg, List.take_succ_eq_append_getElem hj, List.drop_append_of_le_length (by simp; omega), seg]
theorem seg_nil (xs : List Int) (i : Nat) : seg xs i i = [] := by simp [seg]
theorem seg_bound {xs : List Int} (h : Small xs) (i j : Nat) : 0 ≤ sm (seg xs i j) ∧ sm (seg xs i j) ≤ 65970697666560 ∧ 0 ≤ mo (seg xs i j) ∧ mo (seg xs i j) ≤ 1099511627776 := (h.take j i).bound
/-- The best of the ranges that P names. -/
inductive Upto (xs : List Int) (P : Nat → Nat → Prop) : Nat → Nat → Prop where
  | none (h : ∀ i j, j ≤ xs.length → P i j → bal (seg xs i j) = false) : Upto xs P 0 0
  | some (f t : Nat) (ht : t ≤ xs.length) (hb : bal (seg xs f t) = true) (hp : P f t) (h : ∀ i j, j ≤ xs.length → P i j → bal (seg xs i j) = true → j - i < t - f ∨ (j - i = t - f ∧ f ≤ i)) : Upto xs P f t
theorem Upto.le {xs : List Int} {P : Nat → Nat → Prop} {f t : Nat} (h : Upto xs P f t) : f ≤ t ∧ t ≤ xs.length := by
  cases h with
  | none => exact ⟨Nat.le_refl _, Nat.zero_le _⟩
  | some _ _ ht hb _ _ =>
    have := bal_len hb
    rw [seg_len _ ht] at this
    omega
theorem Upto.best {xs : List Int} {P : Nat → Nat → Prop} {f t : Nat} (h : Upto xs P f t) (hP : ∀ i j, i < j → j ≤ xs.length → P i j) : Best xs f t := by
  have key : ∀ i j, j ≤ xs.length → bal (seg xs i j) = true → P i j := fun i j hj hb => by
    have := bal_len hb
    rw [seg_len _ hj] at this
    exact hP i j (by omega) hj
  cases h with
  | none h => exact .none fun i j hj => Bool.eq_false_iff.2 fun hb => by rw [h i j hj (key i j hj hb)] at hb; cases hb
  | some _ _ ht hb hp h => exact .some _ _ ht hb fun i j hj hb => h i j hj (key i j hj hb) hb
theorem Upto.same {xs : List Int} {P Q : Nat → Nat → Prop} {f t : Nat} (h : Upto xs P f t) (h1 : ∀ i j, P i j → Q i j) (h2 : ∀ i j, j ≤ xs.length → Q i j → P i j ∨ bal (seg xs i j) = false) : Upto xs Q f t := by
  cases h with
  | none h => exact .none fun i j hj hq => (h2 i j hj hq).elim (fun hp => h i j hj hp) id
  | some _ _ ht hb hp h => exact .some _ _ ht hb (h1 _ _ hp) fun i j hj hq hb => (h2 i j hj hq).elim (fun hp => h i j hj hp hb) (fun hn => by rw [hn] at hb; cases hb)
theorem Upto.take {xs : List Int} {P Q : Nat → Nat → Prop} {f t i j : Nat} (h : Upto xs P f t) (hj : j ≤ xs.length) (hb : bal (seg xs i j) = true) (hl : t - f < j - i) (h1 : Q i j) (h2 : ∀ a b, Q a b → P a b ∨ (a = i ∧ b = j)) : Upto xs Q i j := by
  refine .some _ _ hj hb h1 fun a b hb' hq hbal => ?_
  rcases h2 a b hq with hp | ⟨rfl, rfl⟩
  · cases h with
    | none h => rw [h _ _ hb' hp] at hbal; cases hbal
    | some _ _ _ _ _ h => rcases h _ _ hb' hp hbal with h | h <;> omega
  · exact .inr ⟨rfl, Nat.le_refl _⟩
theorem Upto.keep {xs : List Int} {P Q : Nat → Nat → Prop} {f t i j : Nat} (h : Upto xs P f t) (hj : j ≤ xs.length) (hn : bal (seg xs i j) = true → j - i ≤ t - f) (hf : ∀ a b, P a b → a ≤ i) (h1 : ∀ a b, P a b → Q a b) (h2 : ∀ a b, Q a b → P a b ∨ (a = i ∧ b = j)) : Upto xs Q f t := by
  cases h with
  | none h =>
    refine .none fun a b hb hq => ?_
    rcases h2 a b hq with hp | ⟨rfl, rfl⟩
    · exact h a b hb hp
    · refine Bool.eq_false_iff.2 fun hbal => ?_
      have := bal_len hbal
      rw [seg_len _ hj] at this
      have := hn hbal
      omega
  | some _ _ ht hbt hp h =>
    refine .some _ _ ht hbt (h1 _ _ hp) fun a b hb hq hbal => ?_
    rcases h2 a b hq with hp' | ⟨rfl, rfl⟩
    · exact h a b hb hp' hbal
    · have := hn hbal
      have := hf _ _ hp
      omega
/-- The ranges visited. -/
def Vis (k J : Nat) (i j : Nat) : Prop := i < j ∧ (i < k ∨ (i = k ∧ j ≤ J))
theorem vis_step {k J : Nat} (h : k ≤ J) : (∀ a b, Vis k J a b → Vis k (J + 1) a b) ∧ (∀ a b, Vis k (J + 1) a b → Vis k J a b ∨ (a = k ∧ b = J + 1)) ∧ (∀ a b, Vis k J a b → a ≤ k) ∧ Vis k (J + 1) k (J + 1) := by
  unfold Vis
  refine ⟨fun a b h => ?_, fun a b h => ?_, fun a b h => ?_, ?_⟩ <;> omega
theorem bal_seg {xs : List Int} {k J : Nat} {A B : Int} (hJ : J ≤ xs.length) (ha : A = sm (seg xs k J)) (hb : B = mo (seg xs k J)) : bal (seg xs k J) = (decide (2 ≤ J - k) && decide (B ≤ A - B)) := by
  rw [bal, seg_len _ hJ, ha, hb]
set_option maxRecDepth 100000 in
set_option maxHeartbeats 2000000 in
theorem choose_any (s : Sl Int) (w : World) (h : kInt.Inv w s) (hs : Small s.xs) :
    Calls Try.prog 10 #[.slice s.A s.xs.length s.cap] w (ChPost w s.xs) := by
  have HI := Lib.hid h
  have HS := Lib.hid hs
  have hmx : s.xs.length ≤ 60 := hs.len
  clear h hs
  go_enter Try.func10, Try.ntmps10
  go_wp2_with fail
  go_loopw [4, 5, 6, 13] (fun f t _ i wr => ∃ (k F T : Nat), k ≤ s.xs.length ∧ i = .int .i64 k ∧ f = .int .i64 F ∧ t = .int .i64 T ∧ Hid (Upto s.xs (Vis k k) F T) ∧ BW w wr) (fun _ _ _ i _ => s.xs.length - (intOf i).toNat)
  case atStart => exact ⟨0, 0, 0, Nat.zero_le _, rfl, rfl, rfl, Upto.none (fun i j _ h => by unfold Vis at h; omega), BW.refl w⟩
  case round =>
    obtain ⟨k, F, T, hk, rfl, rfl, rfl, HP, HB⟩ := hrel
    by_cases hlt : k < s.xs.length
    · go_wp2_with fail
      go_loopw [4, 5, 7, 8, 9, 10] (fun f t a b j _ wq => ∃ (J F T : Nat) (A B : Int), k ≤ J ∧ J ≤ s.xs.length ∧ j = .int .i64 J ∧ f = .int .i64 F ∧ t = .int .i64 T ∧ a = .int .i64 A ∧ b = .int .i64 B ∧ Hid (A = sm (seg s.xs k J)) ∧ Hid (B = mo (seg s.xs k J)) ∧ Hid (Upto s.xs (Vis k J) F T) ∧ BW w wq) (fun _ _ _ _ j _ _ => s.xs.length - (intOf j).toNat)
      case atStart => exact ⟨k, F, T, 0, 0, Nat.le_refl _, hk, rfl, rfl, rfl, rfl, rfl, by show _ = _; rw [seg_nil]; rfl, by show _ = _; rw [seg_nil]; rfl, HP, HB⟩
      case round =>
        clear HB HP
        obtain ⟨J, F2, T2, A, B, hkJ, hJ, rfl, rfl, rfl, rfl, rfl, HA, HB', HP, HB⟩ := hrel
        by_cases hlJ : J < s.xs.length
        · obtain ⟨b, o, hA, c0⟩ := int_at (HI.out.below HB.out) J hlJ
          have HAd := Lib.hid hA
          rw [hA]
          clear hA
          have hb1 := seg_bound HS.out k J
          rw [← HA.out, ← HB'.out] at hb1
          have hs1 : Hid (A + max 0 s.xs[J] = sm (seg s.xs k (J + 1))) := by show _ = _; rw [seg_snoc hkJ hlJ, sm_snoc, ← HA.out, Int.max_comm]
          have hs2 : Hid (max B (max 0 s.xs[J]) = mo (seg s.xs k (J + 1))) := by show _ = _; rw [seg_snoc hkJ hlJ, mo_snoc, ← HB'.out]; omega
          obtain ⟨x, hx⟩ : ∃ x, x = max 0 s.xs[J] := ⟨_, rfl⟩
          have hb2 := seg_bound HS.out k (J + 1)
          rw [← hs1.out, ← hs2.out] at hb2
          obtain ⟨hF, hT⟩ := HP.out.le
          obtain ⟨v1, v2, v3, v4⟩ := vis_step hkJ
          have hbal := Lib.hid (bal_seg (k := k) (J := J + 1) hlJ hs1.out hs2.out)
          have e1 : IntKind.i64.wrap (A + max 0 s.xs[J]) = A + max 0 s.xs[J] := IntWalk.i64_in _ (by omega)
          have e2 : IntKind.i64.wrap (A + max 0 s.xs[J] - max B (max 0 s.xs[J])) = A + max 0 s.xs[J] - max B (max 0 s.xs[J]) := IntWalk.i64_in _ (by omega)
          go_wp2_with fail
          all_goals
            go_roundw
            case rel =>
              first
              | exact ⟨J + 1, F2, T2, A + max 0 s.xs[J], max B (max 0 s.xs[J]), by omega, by omega, by go_num, rfl, rfl, by congr 1; (repeat' split) <;> omega, by congr 1; (repeat' split) <;> omega, hs1, hs2, HP.out.keep hlJ (fun hb => by rw [hbal.out, Bool.and_eq_true, decide_eq_true_eq, decide_eq_true_eq] at hb; omega) v3 v1 v2, HB⟩
              | exact ⟨J + 1, k, J + 1, A + max 0 s.xs[J], max B (max 0 s.xs[J]), by omega, by omega, by go_num, rfl, by go_num, by congr 1; (repeat' split) <;> omega, by congr 1; (repeat' split) <;> omega, hs1, hs2, HP.out.take hlJ (by rw [hbal.out, Bool.and_eq_true]; exact ⟨decide_eq_true (by omega), decide_eq_true (by omega)⟩) (by omega) v4 v2, HB⟩
            case measure => simp [intOf]; omega
        · go_wp2
          go_roundw
          case rel => exact ⟨k + 1, F2, T2, by omega, by go_num, rfl, rfl, HP.out.same (fun a b h => by unfold Vis at *; omega) (fun a b hb h => by
            unfold Vis at *
            by_cases h' : a < b ∧ (a < k ∨ a = k ∧ b ≤ J)
            · exact .inl h'
            · refine .inr (Bool.eq_false_iff.2 fun hbal => ?_)
              have := bal_len hbal
              rw [seg_len _ hb] at this
              omega), HB⟩
          case measure => simp [intOf]; omega
    · go_wp2
      go_ret2
      exact ⟨F, T, rfl, HP.out.best (fun i j h1 h2 => by unfold Vis; omega), HB.out⟩
end Go.Proofs.Ytndlhmnablefpaa
