/- What cmp.Compare, cmp.Or and compaction.order answer. -/
import Derived.Test.YtndlhmnablefpaaRec5
namespace Go.Proofs.Ytndlhmnablefpaa
open Go.RowKit
theorem ne_of {a b : Int} (h : (a != b) = true) : a ≠ b := by simpa using h
theorem eq_of {a b : Int} (h : (a != b) = false) : a = b := by simpa using h
theorem isNaN_any (a : Int) (w : World) : Calls Try.prog 95 #[.int .i64 a] w fun e w' => e = .returned (.bool false) ∧ w' = w := by
  go_enter Try.func95, Try.ntmps95
  go_wp2
  go_ret
  exact ⟨ret_bool (by simp), rfl⟩
theorem compare_any (a b : Int) (w : World) : Calls Try.prog 64 #[.int .i64 a, .int .i64 b] w fun e w' => e = .returned (.int .i64 (cmpI a b)) ∧ w' = w := by
  go_enter Try.func64, Try.ntmps64
  go_wp2_with (go_at_call 95; refine (isNaN_any _ _).mono ?_; rintro e w1 ⟨rfl, rfl⟩)
  all_goals
    go_ret
    exact ⟨ret_i64 (by unfold cmpI; (try split) <;> (try split) <;> omega), rfl⟩
def or3 (a b c : Int) : Int := if a ≠ 0 then a else if b ≠ 0 then b else c
set_option maxHeartbeats 400000 in
theorem or_any (a b c : Int) (g cap : Nat) (w : World) (h0 : w.cell? ⟨g, 0, none⟩ = some (.int .i64 a)) (h1 : w.cell? ⟨g, 1, none⟩ = some (.int .i64 b)) (h2 : w.cell? ⟨g, 2, none⟩ = some (.int .i64 c)) :
    Calls Try.prog 63 #[.slice (some ⟨g, 0, none⟩) 3 cap] w fun e w' => e = .returned (.int .i64 (or3 a b c)) ∧ w' = w := by
  go_enter Try.func63, Try.ntmps63
  go_wp2_with fail
  go_loop [5, 8] (fun _ i => ∃ k : Nat, k ≤ 3 ∧ i = .int .i64 k ∧ (0 < k → a = 0) ∧ (1 < k → b = 0) ∧ (2 < k → c = 0)) (fun _ i => 3 - (intOf i).toNat)
  case atStart => exact ⟨0, by omega, rfl, by omega, by omega, by omega⟩
  case round =>
    obtain ⟨k, hk, rfl, q0, q1, q2⟩ := hrel
    have Q0 := Lib.hid q0
    have Q1 := Lib.hid q1
    have Q2 := Lib.hid q2
    clear q0 q1 q2
    have hk4 : k = 0 ∨ k = 1 ∨ k = 2 ∨ k = 3 := by omega
    rcases hk4 with rfl | rfl | rfl | rfl
    · go_wp2
      case _ =>
        go_ret
        exact ⟨ret_i64 (by rw [or3, if_pos (ne_of ‹(a != 0) = true›)]), rfl⟩
      case _ =>
        go_round
        case rel => exact ⟨1, by omega, rfl, fun _ => eq_of ‹(a != 0) = false›, by omega, by omega⟩
        case measure => simp [intOf]
    · go_wp2
      case _ =>
        go_ret
        exact ⟨ret_i64 (by rw [or3, if_neg (by simp [Q0.out (by omega)]), if_pos (ne_of ‹(b != 0) = true›)]), rfl⟩
      case _ =>
        go_round
        case rel => exact ⟨2, by omega, rfl, fun _ => Q0.out (by omega), fun _ => eq_of ‹(b != 0) = false›, by omega⟩
        case measure => simp [intOf]
    · go_wp2
      case _ =>
        go_ret
        exact ⟨ret_i64 (by rw [or3, if_neg (by simp [Q0.out (by omega)]), if_neg (by simp [Q1.out (by omega)])]), rfl⟩
      case _ =>
        go_round
        case rel => exact ⟨3, by omega, rfl, fun _ => Q0.out (by omega), fun _ => Q1.out (by omega), fun _ => eq_of ‹(c != 0) = false›⟩
        case measure => simp [intOf]
    · go_wp2
      go_ret
      exact ⟨ret_i64 (by rw [or3, if_neg (by simp [Q0.out (by omega)]), if_neg (by simp [Q1.out (by omega)]), Q2.out (by omega)]), rfl⟩
end Go.Proofs.Ytndlhmnablefpaa
