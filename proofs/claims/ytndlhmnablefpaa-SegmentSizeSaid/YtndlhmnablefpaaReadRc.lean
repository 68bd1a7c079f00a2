/- What a row hands in: a rectangle. -/
import Derived.Test.YtndlhmnablefpaaReads
import Derived.Test.YtndlhmnablefpaaSegM
namespace Go.Proofs.Ytndlhmnablefpaa
open Go.RowKit Go.ChangeShapes Go.WideShapes
set_option linter.unusedSimpArgs false
set_option linter.unusedVariables false
def kRc : Kd Rc := Kd.flat 4 Rc.cells (by decide) (fun _ => rfl) (fun x v h => by simp [Rc.cells] at h; rcases h with rfl | rfl | rfl | rfl <;> rfl)
theorem list4 {α : Type} {l : List α} (h : l.length = 4) : ∃ a b c d, l = [a, b, c, d] := by
  match l, h with
  | [a, b, c, d], _ => exact ⟨a, b, c, d, rfl⟩
theorem cellsRc : Try.prog.cellsOf 51 = 4 := by kernel_rfl
theorem reads_rc : Reads Try.prog kRc 51 (fun _ => True) := by
  refine ⟨cellsRc, fun H enc w fuel cs x h => ?_⟩
  obtain ⟨xs, n, rfl, rfl, hcl, hxl, hf⟩ := DataW.trod_struct Try.underlying51 h
  rw [cellsRc] at hcl
  obtain ⟨c0, c1, c2, c3, rfl⟩ := list4 hcl
  obtain ⟨x0, x1, rfl⟩ := list2 (by simpa using hxl)
  have h0 : DataW.trod enc Try.prog w 0 (fun _ => true) true n 49 ((([c0, c1, c2, c3] : List Value).drop 0).take (Try.prog.cellsOf 49)) = some x0 := hf 0 _ rfl
  have h1 : DataW.trod enc Try.prog w 0 (fun _ => true) true n 49 ((([c0, c1, c2, c3] : List Value).drop 2).take (Try.prog.cellsOf 49)) = some x1 := hf 1 _ rfl
  rw [cellsPer] at h0 h1
  simp only [List.drop, List.take] at h0 h1
  obtain ⟨a, b, e0⟩ := reads_per h0
  obtain ⟨c, d, e1⟩ := reads_per h1
  simp only [List.cons.injEq, and_true] at e0 e1
  obtain ⟨rfl, rfl⟩ := e0
  obtain ⟨rfl, rfl⟩ := e1
  exact ⟨⟨a, b, c, d⟩, rfl, trivial, fun _ => trivial⟩
end Go.Proofs.Ytndlhmnablefpaa
