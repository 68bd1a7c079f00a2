/- ref35.SameVersions of lists with the same data. -/
import Derived.Test.YtndlhmnablefpaaClone
namespace Go.Proofs.Ytndlhmnablefpaa
open Go.RowKit
set_option linter.unusedSimpArgs false
set_option linter.unusedVariables false
set_option maxRecDepth 100000 in
set_option maxHeartbeats 1000000 in
theorem sameRow_any (A B : Option Addr) (c d : Nat) (xs : List Vl) (w : World) (h : kVl.Inv w ⟨A, c, xs⟩) (h' : kVl.Inv w ⟨B, d, xs⟩) :
    Ans Try.prog 37 #[.slice A xs.length c, .slice B xs.length d] w (.bool true) := by
  unfold Ans
  have HI := Lib.hid h
  have HJ := Lib.hid h'
  have hmx : xs.length ≤ 9223372036854775807 := Nat.le_trans h.le h.mx
  clear h h'
  go_enter Try.func37, Try.ntmps37
  go_wp2_with fail
  go_loopw [4, 5, 13] (fun _ _ i wr => ∃ k : Nat, k ≤ xs.length ∧ i = .int .i64 k ∧ BW w wr) (fun _ _ i _ => xs.length - (intOf i).toNat)
  case atStart => exact ⟨0, Nat.zero_le _, rfl, BW.refl w⟩
  case round =>
    obtain ⟨k, hk, rfl, HB⟩ := hrel
    by_cases hlt : k < xs.length
    · obtain ⟨b, o, hA, c0, c1, c2, _⟩ := vl_at (HI.out.below HB.out) k hlt
      obtain ⟨b', o', hA', e0, e1, e2, _⟩ := vl_at (HJ.out.below HB.out) k hlt
      simp only at hA hA' c0 c1 c2 e0 e1 e2
      subst hA hA'
      go_wp2_with fail
      go_quiet (fail)
      go_wp2
      go_roundw
      case rel => exact ⟨k + 1, by omega, by go_num, HB.drewN _⟩
      case measure => simp [intOf]; omega
    · go_wp2
      go_ret
      exact ⟨rfl, HB.out⟩
set_option maxRecDepth 100000 in
set_option maxHeartbeats 2000000 in
theorem sameVersions_any (a b : Sl Ver) (w : World) (h : kVer.Inv w a) (h' : kVer.Inv w b) (he : pv a.xs = pv b.xs) :
    Ans Try.prog 16 #[.slice a.A a.xs.length a.cap, .slice b.A b.xs.length b.cap] w (.bool true) := by
  unfold Ans
  have hl : b.xs.length = a.xs.length := by rw [← pv_len a.xs, he, pv_len]
  have HI := Lib.hid h
  have HJ := Lib.hid h'
  have HE : Hid (∀ k, (h1 : k < a.xs.length) → (h2 : k < b.xs.length) → b.xs[k].p = a.xs[k].p) := fun k h1 h2 => by
    have h3 : (pv b.xs)[k]'(by rw [pv_len]; exact h2) = (pv a.xs)[k]'(by rw [pv_len]; exact h1) := by simp only [he]
    simpa [pv] using h3
  have hmx : a.xs.length ≤ 9223372036854775807 := Nat.le_trans h.le h.mx
  rw [hl]
  clear h h' he
  go_enter Try.func16, Try.ntmps16
  go_wp2_with fail
  go_loopw [4, 5, 6, 7, 15] (fun _ _ _ _ i wr => ∃ k : Nat, k ≤ a.xs.length ∧ i = .int .i64 k ∧ BW w wr) (fun _ _ _ _ i _ => a.xs.length - (intOf i).toNat)
  case atStart => exact ⟨0, Nat.zero_le _, rfl, BW.refl w⟩
  case round =>
    obtain ⟨k, hk, rfl, HB⟩ := hrel
    by_cases hlt : k < a.xs.length
    · have hlt2 : k < b.xs.length := by omega
      obtain ⟨g, o, hA, hb, c0, c1, c2, c3, c4, c5, c6, c7, c8, hr⟩ := ver_at (HI.out.below HB.out) k hlt
      obtain ⟨g', o', hA', hb', e0, e1, e2, e3, e4, e5, e6, e7, e8, hr'⟩ := ver_at (HJ.out.below HB.out) k hlt2
      have hp := HE.out k hlt hlt2
      have HAd := Lib.hid hA
      have HAd' := Lib.hid hA'
      rw [hp] at e0 e1 e2 e3 e4 e5 e6 e7 e8
      rw [hA, hA']
      clear hA hA'
      have hr2 : kVl.Inv wr ⟨b.xs[k].A, b.xs[k].c, a.xs[k].p.row⟩ := by
        have := hr'
        unfold Ver.rowS at this
        rwa [hp] at this
      have HR := Lib.hid hr
      have HR2 := Lib.hid hr2
      clear hr hr' hr2
      go_wp2_with fail
      refine Calls.mono (sameRow_any a.xs[k].A b.xs[k].A a.xs[k].c b.xs[k].c a.xs[k].p.row _ ?_ ?_) ?_
      · exact HR.out.below (by exact BW.fin)
      · exact HR2.out.below (by exact BW.fin)
      rintro e w2 ⟨rfl, hb2⟩
      replace HB := BW.next hb2
      clear hb2 c0 c1 c2 c3 c4 c5 c6 c7 c8 e0 e1 e2 e3 e4 e5 e6 e7 e8 hp
      go_wp2
      go_roundw
      case rel => exact ⟨k + 1, by omega, by go_num, HB⟩
      case measure => simp [intOf]; omega
    · go_wp2
      go_ret
      exact ⟨rfl, HB.out⟩
end Go.Proofs.Ytndlhmnablefpaa
