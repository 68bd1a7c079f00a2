/- The law CompactionChoose is true. -/
import Derived.Test.YtndlhmnablefpaaWorks2
namespace Go.Proofs.Ytndlhmnablefpaa
open Go.RowKit
set_option linter.unusedSimpArgs false
set_option linter.unusedVariables false
theorem balSub2 {w : World} {s : Sl Int} (h : kInt.Inv w s) (hs : Small s.xs) (f t : Nat) (ht : t ≤ s.xs.length) (hb : bal (seg s.xs f t) = true) :
    Ans Try.prog 12 #[.slice (Option.map (fun x => x.add f) s.A) (t - f) (s.cap - f)] w (.bool true) := by
  have h2 := bal_len hb
  rw [seg_len _ ht] at h2
  have := balSub h hs f (t - f) (by omega) h2
  rwa [show f + (t - f) = t by omega, hb] at this
set_option maxRecDepth 100000 in
set_option maxHeartbeats 2000000 in
theorem lawChoose_any (s : Sl Int) (w : World) (h : kInt.Inv w s) :
    Ans Try.prog 3 #[.slice s.A s.xs.length s.cap] w (.bool true) := by
  unfold Ans
  have HI := Lib.hid h
  have hle := h.le
  have hmx : s.cap ≤ 9223372036854775807 := h.mx
  clear h
  go_enter Try.func3, Try.ntmps3
  by_cases h60 : s.xs.length ≤ 60
  · have hd : ¬ (60 : Int) < (s.xs.length : Int) := by omega
    go_wp2_with fail
    go_loopw [2, 4, 15] (fun _ _ i wr => ∃ k : Nat, k ≤ s.xs.length ∧ i = .int .i64 k ∧ Hid (∀ x, x ∈ s.xs.take k → x ≤ 1099511627776) ∧ BW w wr) (fun _ _ i _ => s.xs.length - (intOf i).toNat)
    case atStart => exact ⟨0, Nat.zero_le _, rfl, fun x hx => by simp at hx, BW.refl w⟩
    case round =>
      obtain ⟨k, hk, rfl, HP, HB⟩ := hrel
      by_cases hlt : k < s.xs.length
      · obtain ⟨b, o, hA, c0⟩ := int_at (HI.out.below HB.out) k hlt
        have HA := Lib.hid hA
        rw [hA]
        clear hA
        by_cases hx : s.xs[k] ≤ 1099511627776
        · have hx' : ¬ (1099511627776 : Int) < s.xs[k] := by omega
          go_wp2_with fail
          go_roundw
          case rel => exact ⟨k + 1, by omega, by go_num, fun x hm => by
            rw [List.take_succ_eq_append_getElem hlt] at hm
            rcases List.mem_append.1 hm with hm | hm
            · exact HP.out x hm
            · simp at hm; rw [hm]; exact hx, HB⟩
          case measure => simp [intOf]; omega
        · have hx' : (1099511627776 : Int) < s.xs[k] := by omega
          go_wp2_with (refine (works_any _).mono ?_; rintro e v1 ⟨rfl, b1⟩; replace HB := BW.next b1)
          go_ret
          exact ⟨rfl, HB.out⟩
      · have HS : Small s.xs := ⟨h60, fun x hx => HP.out x (by rwa [List.take_of_length_le (by omega)])⟩
        have HSm := Lib.hid HS
        clear HS HP
        go_wp2_with fail
        refine Calls.mono (choose_any s _ (HI.out.below HB.out) HSm.out) ?_
        rintro e v1 ⟨f, t, rfl, hb1, b1⟩
        replace HB := BW.next b1
        clear b1
        go_wp2_with fail
        refine Calls.mono (refChoose_any s _ (HI.out.below HB.out) HSm.out) ?_
        rintro e v2 ⟨f', t', rfl, hb2, b2⟩
        replace HB := BW.next b2
        clear b2
        obtain ⟨rfl, rfl⟩ := hb1.uniq hb2
        clear hb2
        cases hb1 with
        | none hn =>
          clear hn
          go_wp2_with (refine (works_any _).mono ?_; rintro e v3 ⟨rfl, b3⟩; replace HB := BW.next b3)
          go_ret
          exact ⟨rfl, HB.out⟩
        | some _ _ ht hb _ =>
          have h2 := bal_len hb
          rw [seg_len _ ht] at h2
          have HBB := Lib.hid hb
          clear hb
          have hne : ¬ (f : Int) = (t : Int) := by omega
          go_wp2_with fail
          refine Calls.mono (balSub2 (HI.out.below HB.out) HSm.out f t ht HBB.out) ?_
          rintro e v3 ⟨rfl, b3⟩
          replace HB := BW.next b3
          clear b3
          go_wp2_with (refine (works_any _).mono ?_; rintro e v4 ⟨rfl, b4⟩; replace HB := BW.next b4)
          go_ret
          exact ⟨rfl, HB.out⟩
  · have hd : (60 : Int) < (s.xs.length : Int) := by omega
    have HB := BW.refl w
    go_wp2_with (refine (works_any _).mono ?_; rintro e v1 ⟨rfl, b1⟩; replace HB := BW.next b1)
    go_ret
    exact ⟨rfl, HB.out⟩
end Go.Proofs.Ytndlhmnablefpaa
