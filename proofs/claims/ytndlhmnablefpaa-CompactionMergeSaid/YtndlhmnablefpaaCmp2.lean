/- What compaction.order answers. -/
import Derived.Test.YtndlhmnablefpaaCmp
namespace Go.Proofs.Ytndlhmnablefpaa
open Go.RowKit
set_option maxRecDepth 100000 in
set_option maxHeartbeats 600000 in
theorem order_any (x y : Ver) (w : World) : Ans Try.prog 33 #[.agg x.cells.toArray, .agg y.cells.toArray] w (.int .i64 (ord x.p y.p)) := by
  have hx : BoxV (w.alloc (.cells x.cells.toArray 59)) w.heap.size x := heap_alloc_new w _
  have hx' : BoxV ((w.alloc (.cells x.cells.toArray 59)).alloc (.cells y.cells.toArray 59)) w.heap.size x := ((BW.refl _).alloc _ : BW (w.alloc (.cells x.cells.toArray 59)) _).out.block _ (by simp) |>.trans hx
  have hy : BoxV ((w.alloc (.cells x.cells.toArray 59)).alloc (.cells y.cells.toArray 59)) (w.heap.size + 1) y := heap_new (by simp)
  have HX := Lib.hid hx'
  have HY := Lib.hid hy
  clear hx hx' hy
  unfold Ans
  simp only [Ver.cells]
  go_enter Try.func33, Try.ntmps33
  go_wp2_with fail
  generalize hW : (w.alloc _).alloc _ = W0
  have HW0 : Hid (BoxV W0 w.heap.size x ∧ BoxV W0 (w.heap.size + 1) y ∧ BW w W0) := by subst hW; exact ⟨HX.out, HY.out, ((BW.refl w).alloc _).alloc _⟩
  clear hW HX HY
  obtain ⟨d0, d1, d2, d3, d4, d5, d6, d7, d8⟩ := box9 HW0.out.1
  obtain ⟨e0, e1, e2, e3, e4, e5, e6, e7, e8⟩ := box9 HW0.out.2.1
  refine wp_region_still_tail 19 (by kernel_rfl) (by kernel_rfl) ?_
  simp only [List.take_succ_cons, List.take_zero, List.drop_succ_cons, List.drop_zero]
  repeat still_step
  still_call (compare_any _ _ _)
  repeat still_step
  still_call (compare_any _ _ _)
  repeat still_step
  still_call (compare_any _ _ _)
  refine wpStill_nil ?_
  change wpList _ _ _ _ _ W0.drew
  go_wp2_with (go_at_call 63; refine (or_any (cmpI x.p.id y.p.id) (cmpI x.p.sf y.p.sf) (cmpI x.p.vf y.p.vf) _ _ _ ?_ ?_ ?_).mono ?_; simp; simp; simp; rintro e w1 ⟨rfl, rfl⟩)
  go_ret
  exact ⟨rfl, (HW0.out.2.2.drew.alloc _).out⟩
end Go.Proofs.Ytndlhmnablefpaa
