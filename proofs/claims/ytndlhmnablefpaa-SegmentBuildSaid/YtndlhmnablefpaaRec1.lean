/- What record's checks answer: within, period.Valid, value.Valid, validRow, validVersion, follows, checkVersions. -/
import Derived.Test.YtndlhmnablefpaaProg
import Derived.Test.YtndlhmnablefpaaWalk
namespace Go.Proofs.Ytndlhmnablefpaa
open Go.RowKit

theorem within_any (n a b : Int) (w : World) : Calls Try.prog 114 #[.int .i64 n, .int .i64 a, .int .i64 b] w fun e w' => e = .returned (.bool (within n a b)) ∧ w = w' := by
  go_enter Try.func114, Try.ntmps114
  go_wp2
  all_goals
    go_ret
    exact ⟨ret_bool (by simp [within, *]; try omega), rfl⟩
theorem perValid_any (a b : Int) (w : World) : Ans Try.prog 58 #[.agg #[.int .i64 a, .int .i64 b]] w (.bool (okPer a b)) := by
  unfold Ans
  go_enter Try.func58, Try.ntmps58
  go_wp2
  all_goals
    go_ret
    exact ⟨ret_bool (by simp [okPer, *]; try omega), below_a (below_refl w) (Nat.le_refl _) _⟩
set_option maxHeartbeats 400000 in
theorem printable_any (s : ByteArray) (w : World) (hs : s.size ≤ 9223372036854775807) : Ans Try.prog 127 #[.string s] w (.bool (printable s.data.toList)) := by
  unfold Ans
  go_enter Try.func127, Try.ntmps127
  go_wp2
  go_loop [3, 6] (fun _ i => ∃ k : Nat, k ≤ s.size ∧ i = .int .i64 k ∧ printable (s.data.toList.take k) = true) (fun _ i => s.size - (intOf i).toNat)
  case atStart => exact ⟨0, Nat.zero_le _, rfl, rfl⟩
  case round =>
    obtain ⟨k, hk, rfl, hp⟩ := hrel
    have HP := Lib.hid hp
    clear hp
    by_cases hlt : k < s.size
    · have hd : k < s.data.toList.length := by simpa using hlt
      have HS := Lib.hid (all_succ s.data.toList (fun c => decide (32 ≤ c.toNat) && decide (c.toNat ≤ 126)) k hd)
      have HN := Lib.hid (all_no s.data.toList (fun c => decide (32 ≤ c.toNat) && decide (c.toNat ≤ 126)) k hd)
      have HE := Lib.hid (show s.data.toList[k] = s[k] from rfl)
      go_wp2
      case _ => go_ret; exact ⟨ret_bool (by have h := HN.out; rw [HE.out] at h; exact (h (by simp; omega)).symm), below_refl w⟩
      case _ =>
        go_round
        case rel => exact ⟨k + 1, by omega, by go_num, by unfold printable at *; rw [HS.out, HE.out, HP.out]; simp; omega⟩
        case measure => simp [intOf]; omega
      case _ => go_ret; exact ⟨ret_bool (by have h := HN.out; rw [HE.out] at h; exact (h (by simp; omega)).symm), below_refl w⟩
    · go_wp2
      go_ret
      exact ⟨ret_bool (by rw [← HP.out, List.take_of_length_le (by simp; omega)]), below_refl w⟩
set_option maxHeartbeats 800000 in
theorem valValid_any (v : Vl) (w : World) (hs : v.t.size ≤ 9223372036854775807) : Ans Try.prog 123 #[.agg v.cells.toArray] w (.bool (okVal v)) := by
  obtain ⟨k, n, t⟩ := v
  unfold Ans
  simp only [Vl.cells] at hs ⊢
  go_enter Try.func123, Try.ntmps123
  go_wp2_with (go_at_call 127; refine (printable_any t _ hs).mono ?_; rintro e w1 ⟨rfl, hb⟩)
  all_goals
    go_ret
    refine ⟨ret_bool (by simp [okVal, *]; try omega), ?_⟩
    first | exact below_a (below_refl w) (Nat.le_refl _) _ | exact (below_a (below_refl w) (Nat.le_refl _) _).trans (hb.mono (by simp))
end Go.Proofs.Ytndlhmnablefpaa
