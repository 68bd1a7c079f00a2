/- segment.clone: a version with a row of its own. -/
import Derived.Test.YtndlhmnablefpaaSeg1
import Derived.Test.YtndlhmnablefpaaClone
namespace Go.Proofs.Ytndlhmnablefpaa
open Go.RowKit
set_option linter.unusedSimpArgs false
set_option linter.unusedVariables false
def zeroV : Ver := ⟨⟨0, 0, [], 0, 0, 0, 0, 0, 0⟩, none, 0⟩
theorem BoxV.froz {w : World} {b : Nat} {x : Ver} (h : BoxV w b x) (j : Nat) : w.frozen? ⟨b, j, none⟩ = false := by simp [World.frozen?, (show w.heap[b]? = _ from h)]
/-- The same version, its row in a new place. -/
def CloPost (w : World) (x : Ver) (e : Ending) (w' : World) : Prop := ∃ z : Ver, e = .returned (.agg z.cells.toArray) ∧ z.p = x.p ∧ kVer.inv w' z ∧ (∀ k, k ∈ kVer.foot z → w.heap.size ≤ k) ∧ Below w.heap.size w w'
set_option maxRecDepth 100000 in
set_option maxHeartbeats 1000000 in
theorem clone_any (x : Ver) (w : World) (h : kVer.inv w x) (hl : x.p.row.length * 32 ≤ 140737488355328) :
    Calls Try.prog 57 #[.agg x.cells.toArray] w (CloPost w x) := by
  have HI := Lib.hid h
  clear h
  have HB := BW.refl w
  simp only [Ver.cells]
  go_enter Try.func57, Try.ntmps57
  have HX0 : Hid (BoxV (w.alloc (.cells x.cells.toArray 59)) w.heap.size x) := heap_alloc_new w _
  go_wp2_with fail
  generalize hW : World.alloc (w.alloc _) _ = W0
  have HX1 : Hid (BoxV W0 w.heap.size x) := by subst hW; exact HX0.out.bw ((BW.refl _).alloc _)
  have HB1 : Hid (BW w W0) := by subst hW; exact ((BW.refl w).alloc _).alloc _
  have HZ : Hid (BoxV W0 (w.heap.size + 1) zeroV) := by
    subst hW
    have h1 := heap_alloc_new (w.alloc (.cells x.cells.toArray 59)) (.cells zeroV.cells.toArray 59)
    rw [World.size_alloc] at h1
    exact h1
  clear hW HX0 HB
  have HI0 := Lib.hid (Kd.Inv.below HI.out HB1.out.out)
  refine Calls.mono (cloneRow_any x.rowS W0 HI0.out hl) ?_
  rintro e w3 ⟨v, rfl, hcp, hb3⟩
  obtain ⟨z, hz1, rfl, hz2, hz3⟩ := copied_ver hcp
  have HX3 := Lib.hid (HX1.out.bw ⟨hb3⟩)
  have HZ3 := Lib.hid (HZ.out.bw ⟨hb3⟩)
  have HB3 := Lib.hid (HB1.out.trans ⟨hb3⟩)
  have HP := Lib.hid hz1
  have HQ := Lib.hid hz2
  have HF := Lib.hid hz3
  have hsz := HB1.out.out.size
  have HZ4 := HZ
  clear hcp hz1 hz2 hz3 hb3 HX1 HZ
  obtain ⟨d0, d1, d2, d3, d4, d5, d6, d7, d8⟩ := box9 HX3.out
  obtain ⟨e0, e1, e2, e3, e4, e5, e6, e7, e8⟩ := box9 HZ3.out
  have hf1 := HX3.out.froz
  have hf2 := HZ3.out.froz
  go_wp2_with fail
  have hres := HP.out
  refine bodyPost_ret (v := .agg z.cells.toArray) (by simp [results, Try.results57, go_sem, Ver.cells, HP.out, e0, e1, e2, e3, e4, e5, e6, e7, e8, hf2]) rfl ⟨z, rfl, HP.out, ?_, fun k hk => Nat.le_trans hsz (HF.out k hk), ?_⟩
  · refine kVer.move w3 _ z HQ.out fun k hk => ?_
    have h1 := HF.out k hk
    have h2 : w.heap.size + 1 < W0.heap.size := by
      have := (Array.getElem?_eq_some_iff.1 HZ4.out).1
      exact this
    repeat (refine (heap_setCell_other _ _ _ _ (by simp only; omega)).trans ?_)
    rfl
  · refine BW.out (w := w) ?_
    repeat (refine BW.setCell ?_ (by simp only; omega) _)
    exact HB3.out
end Go.Proofs.Ytndlhmnablefpaa
