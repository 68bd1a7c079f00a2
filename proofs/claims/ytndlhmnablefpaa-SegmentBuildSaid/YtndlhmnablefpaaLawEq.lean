/- law37's equal: whether two rows of bytes are equal. -/
import Derived.Test.YtndlhmnablefpaaSml
namespace Go.Proofs.Ytndlhmnablefpaa
open Go.RowKit
set_option linter.unusedSimpArgs false
set_option linter.unusedVariables false
set_option maxRecDepth 100000 in
set_option maxHeartbeats 1000000 in
theorem lawEqual_any (s t : Sl UInt8) (w : World) (h : kByte.Inv w s) (h' : kByte.Inv w t) :
    Ans Try.prog 21 #[.slice s.A s.xs.length s.cap, .slice t.A t.xs.length t.cap] w (.bool (decide (s.xs = t.xs))) := by
  unfold Ans
  have h1 := convert_bytes (w := w) (A := s.A) (c := s.cap) (ys := s.xs) h s.xs.length rfl
  have h2 := convert_bytes (w := w) (A := t.A) (c := t.cap) (ys := t.xs) h' t.xs.length rfl
  clear h h'
  go_enter Try.func21, Try.ntmps21
  go_wp2_with fail
  go_ret
  refine ⟨ret_bool ?_, (BW.refl w).out⟩
  rw [Bool.eq_iff_iff]
  simp
end Go.Proofs.Ytndlhmnablefpaa
