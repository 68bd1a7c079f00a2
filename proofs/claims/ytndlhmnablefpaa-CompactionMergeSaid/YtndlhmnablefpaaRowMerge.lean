/- The row of the law CompactionMerge. -/
import Derived.Test.YtndlhmnablefpaaRows
import Derived.Test.YtndlhmnablefpaaLawMerge
import Derived.Test.YtndlhmnablefpaaReads
import Derived.ProofKit
import Derived.OpenShut
import Derived.ChangeOld
import Derived.Below
import Derived.SizedLaws
import Derived.ChangeSlices
import Derived.Carry
namespace Go.Proofs.Ytndlhmnablefpaa.compactionMerge
open Go.ChangeShapes Go.WideShapes Go.ChangeAt Go.RowKit
set_option linter.unusedVariables false
theorem own : ownKnob Try.prog.godebug = none := by kernel_rfl
theorem laidOut : laidOutB Try.prog = true := by kernel_rfl
theorem cellsVss : Try.prog.cellsOf 27 = 1 := by kernel_rfl
theorem reads_vss : Reads Try.prog (Kd.slice (Kd.slice kVer)) 27 (fun s => s.xs.length * Try.prog.bytesOf 29 ≤ reachBytes ∧ ∀ y, y ∈ s.xs → y.xs.length * Try.prog.bytesOf 59 ≤ reachBytes ∧ ∀ z, z ∈ y.xs → Fits z.p.row) :=
  reads_slice reads_vls Try.underlying27 cellsVss
set_option maxRecDepth 100000 in
theorem lifted (os : Os) (started : os.Started) (H : Type) (enc : TypeId × Value → H) :
    ReturnsInHanded {} Try.checked os 4 .any (Rows.compactionMergeSpec.pre6 enc Try.prog Try.f4 Rows.compactionMergeRow.domain false) (Rows.compactionMergeSpec.post enc Try.prog Try.f4 false true false false) := by
  refine returnsInHanded_of_change_sized (C := Try.checked) own started (by kernel_rfl) Try.func4
    (ChangeSpec.witness6 (enc := enc) (C := Try.checked) false ⟨#[], #[.slice none 0 0], []⟩ 8 (by kernel_rfl) (by kernel_rfl) (by kernel_rfl) (by kernel_rfl)) ?_
  intro W base args ds gs before hval0 hW hcnd hsz0 _
  have hval : ∀ (j : Nat) t v, Try.f4.params[j]? = some t → args[j]? = some v → Value.okWide Try.prog W .any base t v := hval0
  have hW' := hW
  obtain ⟨p, q, hA0, hV, rfl, hfz, hnd⟩ := hW
  have hA : DataW.TrodAll enc Try.prog W 0 (fun _ => true) true Try.f4.params.toList args.toList ds p := hA0
  rw [Try.params4] at hA hval
  obtain ⟨v0, vs0, d0, ds0, p0, q0, hargs, rfl, rfl, h0, r0⟩ := trodAll_cons hA
  obtain ⟨rfl, rfl, rfl⟩ := trodAll_nil r0
  obtain rfl : args = #[v0] := by cases args; simp_all
  obtain ⟨rfl, rfl⟩ := trodVars_none hV
  obtain ⟨a0, len0, cap0, rfl⟩ := okWide_slice Try.underlying27 (hval 0 27 v0 rfl rfl)
  have k0 := h0
  have lt0 : ∀ x ∈ p0, x.block < W.heap.size := by obtain ⟨m, hm⟩ := k0; exact DataW.trod_lt m _ _ _ hm
  obtain ⟨fuel, hf⟩ := h0
  have hw0 : ∀ n, n ∈ d0.weights Try.prog 27 → n ≤ reachBytes := fun n hn => by
    have h1 := List.all_eq_true.1 hsz0 n (DataW.weights_mem_each (j := 0) (t := 27) (d := d0) rfl rfl n hn)
    simpa using h1
  obtain ⟨s, hc, hi, hfit⟩ := reads_vss.rd H enc W fuel _ _ hf
  have hfit' := hfit hw0
  simp only [Kd.slice, List.cons.injEq, Value.slice.injEq, and_true] at hc
  obtain ⟨rfl, rfl, rfl⟩ := hc
  clear hA0 hval0 hsz0
  refine (lawMerge_any s W hi (fun x hx => vlen_of (hfit'.2 x hx).1) (fun x hx z hz => (hfit'.2 x hx).2 z hz)).mono fun e W' ⟨he, bel⟩ => ?_
  subst he
  exact ⟨_, rfl, _, _, _, [], _, [], hW', trodAll_mk1 (shut_bool Try.underlying4 _), (trodAll_cons_mk (Below.trod laidOut (by kernel_rfl) (of_decide_eq_true (by kernel_rfl)) k0 bel lt0) trodAll_mk0), rfl, bel.frame _, fun h => by cases h⟩
theorem over : Rows.compactionMergeRow.holds Try.pinned (OpenSpec.ofChange Rows.compactionMergeSpec) :=
  OpenClaim.holds_of_wide 4 Try.f4 rfl rfl rfl rfl rfl rfl rfl ⟨rfl, rfl, rfl, rfl, rfl⟩ rfl rfl rfl rfl rfl (by kernel_rfl) Try.func4 (by kernel_rfl)
    (of_decide_eq_true (by kernel_rfl)) (by unfold Func.isWrapper; first | (rw [if_pos (by decide +kernel)]; kernel_rfl) | (rw [if_neg (by decide +kernel)]; exact ⟨rfl, rfl⟩))
    (fun os started H enc _ => lifted os started H enc)
theorem proved : Rows.CompactionMergeSaid := over
end Go.Proofs.Ytndlhmnablefpaa.compactionMerge
namespace Go.Proofs.Ytndlhmnablefpaa
/-- The row, under a short name, for the claim. -/
theorem compactionMerge_holds : Rows.CompactionMergeSaid := compactionMerge.proved
end Go.Proofs.Ytndlhmnablefpaa
