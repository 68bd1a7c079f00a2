/- Whether rectangles overlap. -/
import Derived.Test.YtndlhmnablefpaaSegP
import Derived.Test.YtndlhmnablefpaaSegM
import Derived.Test.YtndlhmnablefpaaRec1
namespace Go.Proofs.Ytndlhmnablefpaa
open Go.RowKit
set_option linter.unusedSimpArgs false
set_option linter.unusedVariables false
theorem perValid_lit (a b : Int) (w : World) : Ans Try.prog 58 #[.agg #[.int .i64 a, .int .i64 b]] w (.bool (okPer a b)) := perValid_any a b w
set_option maxRecDepth 100000 in
set_option maxHeartbeats 1000000 in
theorem rValid_any (r : Rc) (w : World) : Ans Try.prog 91 #[.agg #[.int .i64 r.vf, .int .i64 r.vt, .int .i64 r.sf, .int .i64 r.st]] w (.bool (okRc r)) := by
  unfold Ans
  have HB := BW.refl w
  go_enter Try.func91, Try.ntmps91
  go_wp2_with (go_at_call 58; refine Calls.mono (perValid_any _ _ _) ?_; rintro e1 w1 ⟨rfl, b1⟩; replace HB := BW.next b1; have hk := bcell b1)
  all_goals
    go_ret
    exact ⟨ret_bool (by simp [okRc, *]), by exact BW.fin⟩
def overP (a b c d : Int) : Bool := okPer a b && (okPer c d && (decide (a < d) && decide (c < b)))
set_option maxRecDepth 100000 in
set_option maxHeartbeats 1000000 in
theorem pOver_any (a b c d : Int) (w : World) : Ans Try.prog 92 #[.agg #[.int .i64 a, .int .i64 b], .agg #[.int .i64 c, .int .i64 d]] w (.bool (overP a b c d)) := by
  unfold Ans
  have HB := BW.refl w
  go_enter Try.func92, Try.ntmps92
  go_wp2_with (go_at_call 58; refine Calls.mono (perValid_any _ _ _) ?_; rintro e1 w1 ⟨rfl, b1⟩; replace HB := BW.next b1; have hk := bcell b1; have hz0 : w.heap.size < w1.heap.size := (by have := b1.size; (try simp at this); omega); have hz1 : w.heap.size + 1 < w1.heap.size := (by have := b1.size; (try simp at this); omega))
  all_goals
    go_ret
    exact ⟨ret_bool (by simp [overP, *] <;> omega), by exact BW.fin⟩
set_option maxRecDepth 100000 in
set_option maxHeartbeats 1000000 in
theorem rOver_any (a b : Rc) (w : World) : Ans Try.prog 59 #[.agg #[.int .i64 a.vf, .int .i64 a.vt, .int .i64 a.sf, .int .i64 a.st], .agg #[.int .i64 b.vf, .int .i64 b.vt, .int .i64 b.sf, .int .i64 b.st]] w (.bool (over a b)) := by
  unfold Ans
  have HB := BW.refl w
  have HX : Hid (over a b = (okRc a && (okRc b && (overP a.vf a.vt b.vf b.vt && overP a.sf a.st b.sf b.st)))) := by
    show _ = _
    rw [Bool.eq_iff_iff, over_iff]
    simp only [overP, Bool.and_eq_true, decide_eq_true_eq]
    unfold okRc
    simp only [Bool.and_eq_true]
    constructor
    · rintro ⟨⟨h1, h2⟩, ⟨h3, h4⟩, h5, h6, h7, h8⟩
      exact ⟨⟨h1, h2⟩, ⟨h3, h4⟩, ⟨h1, h3, h5, h6⟩, h2, h4, h7, h8⟩
    · rintro ⟨⟨h1, h2⟩, ⟨h3, h4⟩, ⟨_, _, h5, h6⟩, _, _, h7, h8⟩
      exact ⟨⟨h1, h2⟩, ⟨h3, h4⟩, h5, h6, h7, h8⟩
  go_enter Try.func59, Try.ntmps59
  go_wp2_with (first | (go_at_call 91; refine Calls.mono (rValid_any _ _) ?_; rintro e1 w1 ⟨rfl, b1⟩; replace HB := BW.next b1; have hk := bcell b1; have hz0 : w.heap.size < w1.heap.size := (by have := b1.size; (try simp at this); omega); have hz1 : w.heap.size + 1 < w1.heap.size := (by have := b1.size; (try simp at this); omega)) | (go_at_call 92; refine Calls.mono (pOver_any _ _ _ _ _) ?_; rintro e1 w1 ⟨rfl, b1⟩; replace HB := BW.next b1; have hk := bcell b1; have hz0 : w.heap.size < w1.heap.size := (by have := b1.size; (try simp at this); omega); have hz1 : w.heap.size + 1 < w1.heap.size := (by have := b1.size; (try simp at this); omega)))
  all_goals
    go_ret
    exact ⟨ret_bool (by rw [HX.out]; simp [*]), by exact BW.fin⟩
end Go.Proofs.Ytndlhmnablefpaa
