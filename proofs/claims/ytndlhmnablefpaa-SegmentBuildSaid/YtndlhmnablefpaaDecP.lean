/- What codec's Period answers. -/
import Derived.Test.YtndlhmnablefpaaDecV
namespace Go.Proofs.Ytndlhmnablefpaa
open Go.RowKit
set_option linter.unusedSimpArgs false
set_option linter.unusedVariables false
def vPer (p : Int × Int) : Value := .agg #[.int .i64 p.1, .int .i64 p.2]
theorem zbox2 {w w1 : World} (h : Below (w.heap.size + 1) (w.alloc (.cells #[.int .i64 0, .int .i64 0] 49)) w1) : w1.cell? ⟨w.heap.size, 0, none⟩ = some (.int .i64 0) ∧ w1.cell? ⟨w.heap.size, 1, none⟩ = some (.int .i64 0) ∧ w1.frozen? ⟨w.heap.size, 0, none⟩ = false ∧ w1.frozen? ⟨w.heap.size, 1, none⟩ = false ∧ w.heap.size < w1.heap.size := by
  have hg := (h.block w.heap.size (by omega)).trans (heap_alloc_new w (.cells #[.int .i64 0, .int .i64 0] 49))
  have hs := h.size
  simp at hs
  refine ⟨?_, ?_, ?_, ?_, by omega⟩
  · rw [cell_of_row w1 _ 0 _ _ _ hg]; rfl
  · rw [cell_of_row w1 _ 1 _ _ _ hg]; rfl
  all_goals simp [World.frozen?, hg]
set_option maxRecDepth 100000 in
set_option maxHeartbeats 2000000 in
theorem cPeriod_any (s : Sl UInt8) (p : Nat) (w : World) (h : kByte.Inv w s) (hp : p ≤ 9223372036854775806) :
    Ans Try.prog 87 #[.slice s.A s.xs.length s.cap, .int .i64 (p : Int)] w (rdV vPer (vPer (0, 0)) (dPer s.xs p)) := by
  unfold Ans
  have HI := Lib.hid h
  have hle := h.le
  have hmx : s.cap ≤ 9223372036854775807 := h.mx
  clear h
  go_enter Try.func87, Try.ntmps87
  have HB := BW.refl w
  go_wp2_with fail
  cases hd : dInt s.xs p with
  | error e =>
    have hde := dInt_err hd
    have HDI := Lib.hid hd
    have HX : Hid (dPer s.xs p = .error e) := by show _ = _; unfold dPer; rw [hd]
    have he0 : ¬ e = 0 := by omega
    clear hd hde
    refine Calls.mono (cInt_any s p _ (HI.out.below (by exact BW.fin)) (by omega)) ?_
    rintro e1 w1 ⟨rfl, b1⟩
    rw [rdV_err HDI.out]
    obtain ⟨z0, z1, f0, f1, hz⟩ := zbox2 (w := w) (by have := b1; simpa using this)
    replace HB := BW.next b1
    clear b1
    go_wp2_with fail
    exact bodyPost_ret (v := .tuple #[vPer (0, 0), .int .i64 0, .int .i64 e]) (by simp [results, Try.results87, go_sem, vPer, z0, z1, hz]) rfl ⟨by rw [rdV_err HX.out], bw3⟩
  | ok r =>
    obtain ⟨f, k⟩ := r
    obtain ⟨_, hk1, hk2⟩ := dInt_ok hd
    have HDI := Lib.hid hd
    have HX : Hid (dPer s.xs p = match dInt s.xs k with
      | .error e => .error e
      | .ok (t, k') => if okPer f t = true then .ok ((f, t), k') else .error 6) := by show _ = _; simp only [dPer, hd]; rfl
    clear hd
    refine Calls.mono (cInt_any s p _ (HI.out.below (by exact BW.fin)) (by omega)) ?_
    rintro e1 w1 ⟨rfl, b1⟩
    rw [rdV_ok HDI.out]
    unfold vInt
    have HB1 : Hid (Below (w.heap.size + 1) (w.alloc (.cells #[.int .i64 0, .int .i64 0] 49)) w1) := by show Below _ _ _; have := b1; simpa using this
    replace HB := BW.next b1
    clear b1
    go_wp2_with fail
    cases hd : dInt s.xs k with
    | error e =>
      have hde := dInt_err hd
      have HDI2 := Lib.hid hd
      have HX2 : Hid (dPer s.xs p = .error e) := by show _ = _; rw [HX.out]; simp only [hd]
      have he0 : ¬ e = 0 := by omega
      clear hd hde
      refine Calls.mono (cInt_any s k _ (HI.out.below (by exact BW.fin)) (by omega)) ?_
      rintro e1 w2 ⟨rfl, b1⟩
      rw [rdV_err HDI2.out]
      obtain ⟨z0, z1, f0, f1, hz⟩ := zbox2 (w := w) (HB1.out.trans (b1.mono (by have := HB1.out.size; simp at this; omega)))
      replace HB := BW.next b1
      clear b1
      go_wp2_with fail
      exact bodyPost_ret (v := .tuple #[vPer (0, 0), .int .i64 0, .int .i64 e]) (by simp [results, Try.results87, go_sem, vPer, z0, z1, hz]) rfl ⟨by rw [rdV_err HX2.out], bw3⟩
    | ok r =>
      obtain ⟨t, k'⟩ := r
      have HDI2 := Lib.hid hd
      have HX2 : Hid (dPer s.xs p = if okPer f t = true then .ok ((f, t), k') else .error 6) := by show _ = _; rw [HX.out]; simp only [hd]
      clear hd
      refine Calls.mono (cInt_any s k _ (HI.out.below (by exact BW.fin)) (by omega)) ?_
      rintro e1 w2 ⟨rfl, b1⟩
      rw [rdV_ok HDI2.out]
      unfold vInt
      have HB2 : Hid (Below (w.heap.size + 1) (w.alloc (.cells #[.int .i64 0, .int .i64 0] 49)) w2) := HB1.out.trans (b1.mono (by have := HB1.out.size; simp at this; omega))
      replace HB := BW.next b1
      clear b1
      go_wp2_with fail
      refine Calls.mono (perValid_any f t _) ?_
      rintro e2 w3 ⟨rfl, b2⟩
      have HB3 : Hid (Below (w.heap.size + 1) (w.alloc (.cells #[.int .i64 0, .int .i64 0] 49)) w3) := by
        show Below _ _ _
        refine (HB2.out.alloc (by have := HB2.out.size; simp at this; omega) _).trans (b2.mono ?_)
        have := HB2.out.size
        simp at this ⊢
        omega
      have HC3 : Hid (w3.heap[w2.heap.size]? = some (.cells #[.int .i64 f, .int .i64 t] 49 (0, 0))) := (b2.block _ szlt).trans (heap_alloc_new w2 _)
      replace HB := BW.next b2
      clear b2
      obtain ⟨z0, z1, f0, f1, hz⟩ := zbox2 HB3.out
      have y0 : w3.cell? ⟨w2.heap.size, 0, none⟩ = some (.int .i64 f) := by rw [cell_of_row w3 _ 0 _ _ _ HC3.out]; rfl
      have y1 : w3.cell? ⟨w2.heap.size, 1, none⟩ = some (.int .i64 t) := by rw [cell_of_row w3 _ 1 _ _ _ HC3.out]; rfl
      cases hpr : okPer f t with
      | true =>
        have HX0 : Hid (dPer s.xs p = .ok ((f, t), k')) := by show _ = _; rw [HX2.out, if_pos hpr]
        go_wp2_with fail
        exact bodyPost_ret (v := .tuple #[.agg #[.int .i64 f, .int .i64 t], .int .i64 (k' : Int), .int .i64 0]) (by simp [results, Try.results87, go_sem, z0, z1, hz]) rfl ⟨by rw [rdV_ok HX0.out]; rfl, bw3⟩
      | false =>
        have HX1 : Hid (dPer s.xs p = .error 6) := by show _ = _; rw [HX2.out, if_neg (by simp [hpr])]
        go_wp2_with fail
        exact bodyPost_ret (v := .tuple #[vPer (0, 0), .int .i64 0, .int .i64 6]) (by simp [results, Try.results87, go_sem, vPer, z0, z1, hz]) rfl ⟨by rw [rdV_err HX1.out], bw3⟩
end Go.Proofs.Ytndlhmnablefpaa
