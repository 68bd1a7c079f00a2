/- The row of the law CompactionChoose. -/
import Derived.Test.YtndlhmnablefpaaRows
import Derived.Test.YtndlhmnablefpaaLawChoose
import Derived.ProofKit
import Derived.OpenShut
import Derived.ChangeOld
import Derived.Below
import Derived.SizedLaws
import Derived.ChangeSlices
import Derived.Carry
namespace Go.Proofs.Ytndlhmnablefpaa.compactionChoose
open Go.ChangeShapes Go.WideShapes Go.ChangeAt Go.RowKit
set_option linter.unusedVariables false
theorem own : ownKnob Try.prog.godebug = none := by kernel_rfl
theorem laidOut : laidOutB Try.prog = true := by kernel_rfl
/-- A list of whole numbers that a row hands in. -/
theorem ints_in {H : Type} {enc : TypeId × Value → H} {w : World} {A : Option Addr} {len cap fuel : Nat} {x : DataW H × List MemPlace} (h : DataW.trod enc Try.prog w 0 (fun _ => true) true fuel 22 [.slice A len cap] = some x) : ∃ xs : List Int, xs.length = len ∧ kInt.Inv w ⟨A, cap, xs⟩ := by
  rcases open_ints Try.underlying22 Try.underlying3 (by kernel_rfl) h with ⟨hcs, _⟩ | ⟨a, l, c, zs, hcs, _, hl, hm, hz, _, hcell, _⟩
  · simp only [List.cons.injEq, Value.slice.injEq, and_true] at hcs
    obtain ⟨rfl, rfl, rfl⟩ := hcs
    exact ⟨[], rfl, Nat.le_refl _, by decide, fun _ => rfl, fun h => absurd rfl h, fun _ h => by simp at h⟩
  · simp only [List.cons.injEq, Value.slice.injEq, and_true] at hcs
    obtain ⟨rfl, rfl, rfl⟩ := hcs
    have hz' : zs.length = cap := by simpa using hz
    have htl : (zs.take len).length = len := by rw [List.length_take]; omega
    refine ⟨zs.take len, htl, by show (zs.take len).length ≤ cap; omega, Nat.le_trans hm (by decide), (fun h => by cases h), fun hx => ?_, fun _ _ => trivial⟩
    have hlen : 0 < len := by
      rcases Nat.eq_zero_or_pos len with h0 | h0
      · subst h0; simp at hx
      · exact h0
    obtain ⟨b, o, spot⟩ := a
    have hs : spot = none := by simpa [Addr.add] using World.cell?_spot (hcell 0 (by omega))
    subst hs
    refine ⟨b, o, rfl, fun i y hi j u hu => ?_⟩
    have hil : i < (zs.take len).length := (List.getElem?_eq_some_iff.1 hi).1
    rw [htl] at hil
    have hzi : zs[i]? = some y := by
      have h1 : (zs.take len)[i]? = some y := hi
      rwa [List.getElem?_take, if_pos hil] at h1
    have hj : j = 0 := by
      have := (List.getElem?_eq_some_iff.1 hu).1
      simp [kInt, Kd.flat] at this
      exact this
    subst hj
    have hu' : u = .int .i64 y := by simpa [kInt, Kd.flat] using hu.symm
    have hc := hcell i (by omega)
    rw [add_none] at hc
    have e1 : zs.getD i 0 = y := by simp [List.getD, hzi]
    rw [hu', show o + i * kInt.sz + 0 = o + i by simp [kInt, Kd.flat]]
    rw [hc, e1]
set_option maxRecDepth 100000 in
theorem lifted (os : Os) (started : os.Started) (H : Type) (enc : TypeId × Value → H) :
    ReturnsInHanded {} Try.checked os 3 .any (Rows.compactionChooseSpec.pre6 enc Try.prog Try.f3 Rows.compactionChooseRow.domain false) (Rows.compactionChooseSpec.post enc Try.prog Try.f3 false true false false) := by
  refine returnsInHanded_of_change_sized (C := Try.checked) own started (by kernel_rfl) Try.func3
    (ChangeSpec.witness6 (enc := enc) (C := Try.checked) false ⟨#[], #[.slice none 0 0], []⟩ 8 (by kernel_rfl) (by kernel_rfl) (by kernel_rfl) (by kernel_rfl)) ?_
  intro W base args ds gs before hval0 hW hcnd hsz0 _
  have hval : ∀ (j : Nat) t v, Try.f3.params[j]? = some t → args[j]? = some v → Value.okWide Try.prog W .any base t v := hval0
  have hW' := hW
  obtain ⟨p, q, hA0, hV, rfl, hfz, hnd⟩ := hW
  have hA : DataW.TrodAll enc Try.prog W 0 (fun _ => true) true Try.f3.params.toList args.toList ds p := hA0
  rw [Try.params3] at hA hval
  obtain ⟨v0, vs0, d0, ds0, p0, q0, hargs, rfl, rfl, h0, r0⟩ := trodAll_cons hA
  obtain ⟨rfl, rfl, rfl⟩ := trodAll_nil r0
  obtain rfl : args = #[v0] := by cases args; simp_all
  obtain ⟨rfl, rfl⟩ := trodVars_none hV
  obtain ⟨a0, len0, cap0, rfl⟩ := okWide_slice Try.underlying22 (hval 0 22 v0 rfl rfl)
  have k0 := h0
  have lt0 : ∀ x ∈ p0, x.block < W.heap.size := by obtain ⟨m, hm⟩ := k0; exact DataW.trod_lt m _ _ _ hm
  obtain ⟨fuel, hf⟩ := h0
  obtain ⟨xs, hl, hi⟩ := ints_in hf
  subst hl
  clear hA0 hval0 hsz0
  refine (lawChoose_any ⟨a0, cap0, xs⟩ W hi).mono fun e W' ⟨he, bel⟩ => ?_
  subst he
  exact ⟨_, rfl, _, _, _, [], _, [], hW', trodAll_mk1 (shut_bool Try.underlying4 _), (trodAll_cons_mk (Below.trod laidOut (by kernel_rfl) (of_decide_eq_true (by kernel_rfl)) k0 bel lt0) trodAll_mk0), rfl, bel.frame _, fun h => by cases h⟩
theorem over : Rows.compactionChooseRow.holds Try.pinned (OpenSpec.ofChange Rows.compactionChooseSpec) :=
  OpenClaim.holds_of_wide 3 Try.f3 rfl rfl rfl rfl rfl rfl rfl ⟨rfl, rfl, rfl, rfl, rfl⟩ rfl rfl rfl rfl rfl (by kernel_rfl) Try.func3 (by kernel_rfl)
    (of_decide_eq_true (by kernel_rfl)) (by unfold Func.isWrapper; first | (rw [if_pos (by decide +kernel)]; kernel_rfl) | (rw [if_neg (by decide +kernel)]; exact ⟨rfl, rfl⟩))
    (fun os started H enc _ => lifted os started H enc)
theorem proved : Rows.CompactionChooseSaid := over
end Go.Proofs.Ytndlhmnablefpaa.compactionChoose
namespace Go.Proofs.Ytndlhmnablefpaa
/-- The row, under a short name, for the claim. -/
theorem compactionChoose_holds : Rows.CompactionChooseSaid := compactionChoose.proved
end Go.Proofs.Ytndlhmnablefpaa
