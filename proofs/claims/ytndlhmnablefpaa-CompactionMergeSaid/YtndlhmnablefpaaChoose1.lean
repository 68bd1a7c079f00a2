/- What ref41.Balanced answers. -/
import Derived.Test.YtndlhmnablefpaaCheck
namespace Go.Proofs.Ytndlhmnablefpaa
open Go.RowKit
set_option linter.unusedSimpArgs false
set_option linter.unusedVariables false
/-- The sum of sizes, the greatest of them; a negative one counts as none. -/
def sm (xs : List Int) : Int := xs.foldl (fun s n => s + max n 0) 0
def mo (xs : List Int) : Int := xs.foldl (fun s n => max s n) 0
def bal (xs : List Int) : Bool := decide (2 ≤ xs.length) && decide (mo xs ≤ sm xs - mo xs)
theorem sm_snoc (xs : List Int) (n : Int) : sm (xs ++ [n]) = sm xs + max n 0 := by simp [sm, List.foldl_append]
theorem mo_snoc (xs : List Int) (n : Int) : mo (xs ++ [n]) = max (mo xs) n := by simp [mo, List.foldl_append]
theorem sm_take {xs : List Int} {k : Nat} (h : k < xs.length) : sm (xs.take (k + 1)) = sm (xs.take k) + max xs[k] 0 := by rw [List.take_succ_eq_append_getElem h, sm_snoc]
theorem mo_take {xs : List Int} {k : Nat} (h : k < xs.length) : mo (xs.take (k + 1)) = max (mo (xs.take k)) xs[k] := by rw [List.take_succ_eq_append_getElem h, mo_snoc]
/-- Sizes that stay small. -/
structure Small (xs : List Int) : Prop where
  len : xs.length ≤ 60
  le : ∀ x, x ∈ xs → x ≤ 1099511627776
theorem Small.take {xs : List Int} (h : Small xs) (i j : Nat) : Small ((xs.take i).drop j) :=
  ⟨by have := h.len; simp; omega, fun x hx => h.le x (List.mem_of_mem_take (List.mem_of_mem_drop hx))⟩
theorem sm_bound : ∀ (k : Nat) (xs : List Int), xs.length = k → (∀ x, x ∈ xs → x ≤ 1099511627776) → 0 ≤ sm xs ∧ sm xs ≤ 1099511627776 * k ∧ 0 ≤ mo xs ∧ mo xs ≤ 1099511627776
  | 0, [], _, _ => by simp [sm, mo]
  | k + 1, xs, hl, h => by
    obtain ⟨ys, y, rfl⟩ : ∃ ys y, xs = ys ++ [y] := ⟨xs.dropLast, xs.getLast (by intro e; simp [e] at hl), (List.dropLast_concat_getLast _).symm⟩
    have := sm_bound k ys (by simpa using hl) (fun x hx => h x (by simp [hx]))
    have hy := h y (by simp)
    rw [sm_snoc, mo_snoc]
    omega
theorem Small.bound {xs : List Int} (h : Small xs) : 0 ≤ sm xs ∧ sm xs ≤ 65970697666560 ∧ 0 ≤ mo xs ∧ mo xs ≤ 1099511627776 := by
  have := sm_bound xs.length xs rfl h.le
  have := h.len
  omega
theorem Small.at {xs : List Int} (h : Small xs) (k : Nat) : 0 ≤ sm (xs.take k) ∧ sm (xs.take k) ≤ 65970697666560 ∧ 0 ≤ mo (xs.take k) ∧ mo (xs.take k) ≤ 1099511627776 := by
  have := (h.take k 0).bound
  simpa using this
theorem maxif (a b : Int) : (if a < b then b else a) = max a b := by split <;> omega
theorem int_at {w : World} {s : Sl Int} (h : kInt.Inv w s) (k : Nat) (hk : k < s.xs.length) : ∃ b o, s.A = some ⟨b, o, none⟩ ∧ w.cell? ⟨b, o + k, none⟩ = some (.int .i64 s.xs[k]) := by
  obtain ⟨b, o, hA, hb, hc, _⟩ := h.get k hk
  have := hc 0 _ rfl
  exact ⟨b, o, hA, by simpa [kInt, Kd.flat] using this⟩
set_option maxRecDepth 100000 in
set_option maxHeartbeats 1000000 in
theorem balanced_any (s : Sl Int) (w : World) (h : kInt.Inv w s) (hs : Small s.xs) :
    Ans Try.prog 12 #[.slice s.A s.xs.length s.cap] w (.bool (bal s.xs)) := by
  unfold Ans
  have HI := Lib.hid h
  have HS := Lib.hid hs
  have hmx : s.xs.length ≤ 60 := hs.len
  clear h hs
  go_enter Try.func12, Try.ntmps12
  go_wp2_with fail
  go_loopw [3, 4, 6, 9] (fun a b _ i wr => ∃ (k : Nat) (A B : Int), k ≤ s.xs.length ∧ i = .int .i64 k ∧ a = .int .i64 A ∧ b = .int .i64 B ∧ Hid (A = sm (s.xs.take k)) ∧ Hid (B = mo (s.xs.take k)) ∧ BW w wr) (fun _ _ _ i _ => s.xs.length - (intOf i).toNat)
  case atStart => exact ⟨0, 0, 0, Nat.zero_le _, rfl, rfl, rfl, rfl, rfl, BW.refl w⟩
  case round =>
    obtain ⟨k, A, B, hk, rfl, rfl, rfl, HP, HQ, HB⟩ := hrel
    by_cases hlt : k < s.xs.length
    · obtain ⟨b, o, hA, c0⟩ := int_at (HI.out.below HB.out) k hlt
      have hb1 := HS.out.at k
      rw [← HP.out, ← HQ.out] at hb1
      have hb2 := HS.out.at (k + 1)
      rw [sm_take hlt, mo_take hlt, ← HP.out, ← HQ.out] at hb2
      have HA := Lib.hid hA
      rw [hA]
      clear hA
      have e1 : IntKind.i64.wrap (A + max s.xs[k] 0) = A + max s.xs[k] 0 := IntWalk.i64_in _ (by omega)
      go_wp2_with fail
      go_roundw
      case rel => exact ⟨k + 1, A + max s.xs[k] 0, max B s.xs[k], by omega, by go_num, by rw [maxif], by rw [maxif], by show _ = _; rw [sm_take hlt, ← HP.out], by show _ = _; rw [mo_take hlt, ← HQ.out], HB⟩
      case measure => simp [intOf]; omega
    · have hb1 := HS.out.at k
      rw [← HP.out, ← HQ.out] at hb1
      have e1 : IntKind.i64.wrap (A - B) = A - B := IntWalk.i64_in _ (by omega)
      have HE : Hid (bal s.xs = (decide (2 ≤ s.xs.length) && decide (B ≤ A - B))) := by
        show _ = _
        rw [bal, HP.out, HQ.out, List.take_of_length_le (by omega)]
      by_cases h2 : 2 ≤ s.xs.length
      · have h3 : (2 : Int) ≤ (s.xs.length : Int) := by omega
        go_wp2
        go_ret
        exact ⟨ret_bool (by rw [HE.out]; simp [h2]), HB.out⟩
      · have h3 : ¬ (2 : Int) ≤ (s.xs.length : Int) := by omega
        go_wp2
        go_ret
        exact ⟨ret_bool (by rw [HE.out]; simp [h2]), HB.out⟩
end Go.Proofs.Ytndlhmnablefpaa
