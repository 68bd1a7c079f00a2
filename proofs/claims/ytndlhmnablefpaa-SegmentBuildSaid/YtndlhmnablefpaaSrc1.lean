/- What record's source does: a number, a row, a period, the end. -/
import Derived.Test.YtndlhmnablefpaaDecR
import Derived.Test.YtndlhmnablefpaaRefRec
import Derived.Test.YtndlhmnablefpaaClone
import Derived.Deep.CutRange
import Derived.Deep.DeepCutAuto
namespace Go.Proofs.Ytndlhmnablefpaa
open Go.RowKit
set_option linter.unusedSimpArgs false
set_option linter.unusedVariables false
/-- The reader in block g: its bytes, its offset, its error. -/
structure RS (w : World) (g : Nat) (s : Sl UInt8) (p : Nat) (e : Int) : Prop where
  heap : w.heap[g]? = some (.cells #[.slice s.A s.xs.length s.cap, .int .i64 (p : Int), .int .i64 e] 127 (0, 0))
  inv : kByte.Inv w s
  apart : ∀ k, k ∈ s.foot kByte → k ≠ g
section
variable {w w' : World} {g : Nat} {s : Sl UInt8} {p : Nat} {e : Int}
theorem RS.lt (h : RS w g s p e) : g < w.heap.size := (Array.getElem?_eq_some_iff.1 h.heap).1
theorem RS.cells (h : RS w g s p e) : w.cell? ⟨g, 0, none⟩ = some (.slice s.A s.xs.length s.cap) ∧ w.cell? ⟨g, 1, none⟩ = some (.int .i64 (p : Int)) ∧ w.cell? ⟨g, 2, none⟩ = some (.int .i64 e) ∧ w.frozen? ⟨g, 1, none⟩ = false ∧ w.frozen? ⟨g, 2, none⟩ = false := by
  refine ⟨?_, ?_, ?_, ?_, ?_⟩
  · rw [cell_of_row w g 0 _ _ _ h.heap]; rfl
  · rw [cell_of_row w g 1 _ _ _ h.heap]; rfl
  · rw [cell_of_row w g 2 _ _ _ h.heap]; rfl
  all_goals simp [World.frozen?, h.heap]
theorem RS.below (h : RS w g s p e) (hb : Below w.heap.size w w') : RS w' g s p e := ⟨(hb.block g h.lt).trans h.heap, h.inv.below hb, h.apart⟩
theorem setCell_gr (w : World) (g o : Nat) (v : Value) : Gr w (w.setCell ⟨g, o, none⟩ v) (some g) (some g) :=
  ⟨⟨rfl, rfl, rfl, by simp, fun k _ hne => Below.heap_setCell _ _ _ _ (fun e => hne (by rw [e]))⟩, .inl rfl⟩
theorem RS.setAt (h : RS w g s p e) (q : Nat) : RS (w.setCell ⟨g, 1, none⟩ (.int .i64 (q : Int))) g s q e := by
  refine ⟨?_, h.inv.move fun k hk => Below.heap_setCell _ _ _ _ (h.apart k hk), h.apart⟩
  have hh := h.heap
  simp [World.setCell, Array.getElem?_modify, hh]
theorem RS.setErr (h : RS w g s p e) (x : Int) : RS (w.setCell ⟨g, 2, none⟩ (.int .i64 x)) g s p x := by
  refine ⟨?_, h.inv.move fun k hk => Below.heap_setCell _ _ _ _ (h.apart k hk), h.apart⟩
  have hh := h.heap
  simp [World.setCell, Array.getElem?_modify, hh]
end
/-- What a state says of the reader's cells. -/
def StRel (b : List UInt8) (σ : St) (p : Nat) (e : Int) : Prop := p ≤ b.length ∧ match σ with
  | .ok q => e = 0 ∧ p = q
  | .error x => e = x ∧ 0 < x
/-- The reader in block g is in the state σ. -/
def RSt (w : World) (g : Nat) (s : Sl UInt8) (σ : St) : Prop := ∃ p e, RS w g s p e ∧ StRel s.xs σ p e
theorem RSt.below {w w' : World} {g : Nat} {s : Sl UInt8} {σ : St} (h : RSt w g s σ) (hb : Below w.heap.size w w') : RSt w' g s σ := by
  obtain ⟨p, e, h1, h2⟩ := h; exact ⟨p, e, h1.below hb, h2⟩
def StepPost (w : World) (g : Nat) (s : Sl UInt8) (p : Nat) (e : Int) (en : Ending) (w' : World) : Prop := ∃ b, en = .returned (.bool b) ∧ RS w' g s p e ∧ Gr w w' (some g) (some g)
set_option maxRecDepth 100000 in
theorem step_ok (g q : Nat) (s : Sl UInt8) (p : Nat) (e : Int) (w : World) (h : RS w g s p e) :
    Calls Try.prog 118 #[.pointer (some ⟨g, 0, none⟩), .int .i64 (q : Int), .int .i64 0] w (StepPost w g s q e) := by
  obtain ⟨c0, c1, c2, f1, f2⟩ := h.cells
  have H := Lib.hid h
  have hgl := h.lt
  clear h
  go_enter Try.func118, Try.ntmps118
  go_wp2_with fail
  go_ret
  exact ⟨true, rfl, H.out.setAt q, setCell_gr _ _ _ _⟩
set_option maxRecDepth 100000 in
theorem step_err (g : Nat) (n x : Int) (hx : 0 < x) (s : Sl UInt8) (p : Nat) (e : Int) (w : World) (h : RS w g s p e) :
    Calls Try.prog 118 #[.pointer (some ⟨g, 0, none⟩), .int .i64 n, .int .i64 x] w (StepPost w g s p x) := by
  obtain ⟨c0, c1, c2, f1, f2⟩ := h.cells
  have H := Lib.hid h
  have hgl := h.lt
  have hx0 : ¬ x = 0 := by omega
  clear h hx
  go_enter Try.func118, Try.ntmps118
  go_wp2_with fail
  go_ret
  exact ⟨false, rfl, H.out.setErr x, setCell_gr _ _ _ _⟩
/-- What reading a number leaves. -/
def SIntPost (w : World) (g : Nat) (s : Sl UInt8) (r : Int × St) (en : Ending) (w' : World) : Prop := en = .returned (.int .i64 r.1) ∧ RSt w' g s r.2 ∧ Gr w w' (some g) (some g)
set_option maxRecDepth 100000 in
set_option maxHeartbeats 1000000 in
theorem sInt_any (g : Nat) (s : Sl UInt8) (σ : St) (w : World) (h : RSt w g s σ) (hl : s.xs.length ≤ 9223372036854775000) :
    Calls Try.prog 109 #[.pointer (some ⟨g, 0, none⟩)] w (SIntPost w g s (rdS (dInt s.xs) 0 σ)) := by
  obtain ⟨p, e, hrs, hst⟩ := h
  obtain ⟨c0, c1, c2, f1, f2⟩ := hrs.cells
  have H := Lib.hid hrs
  have hgl := hrs.lt
  clear hrs
  cases σ with
  | error x =>
    obtain ⟨hp, rfl, hx⟩ := hst
    have hx0 : ¬ e = 0 := by omega
    go_enter Try.func109, Try.ntmps109
    go_wp2_with fail
    go_ret
    exact ⟨rfl, ⟨p, e, H.out, hp, rfl, hx⟩, Gr.refl _ _⟩
  | ok q =>
    obtain ⟨hp, rfl, rfl⟩ := hst
    go_enter Try.func109, Try.ntmps109
    have HB := BW.refl w
    go_wp2_with fail
    cases hd : dInt s.xs p with
    | error x =>
      have hde := dInt_err hd
      have HD := Lib.hid hd
      have hx : 0 < x := by omega
      clear hd hde
      go_region_held3 (fun W => W.cell? ⟨g, 0, none⟩ = some (.slice s.A s.xs.length s.cap) ∧ W.cell? ⟨g, 1, none⟩ = some (.int .i64 (p : Int))) (first | exact k0 | exact k1 | go_keep) (first | (go_at_call 86; refine Calls.mono (cInt_any s p _ (H.out.inv.below (by exact BW.fin)) (by omega)) ?_; rintro e1 w1 ⟨rfl, b1⟩; rw [rdV_err HD.out]; replace HB := BW.next b1; have H1 := Lib.hid (H.out.below HB.out); obtain ⟨k0, k1, _, _, _⟩ := H1.out.cells))
      go_wp2_with fail
      refine Calls.mono (step_err g 0 x hx s p 0 _ H1.out) ?_
      rintro e2 w2 ⟨b, rfl, h2, g2⟩
      go_wp2_with fail
      go_ret
      exact ⟨by rw [rdS_no HD.out]; rfl, ⟨p, x, h2, hp, by rw [rdS_no HD.out]; exact ⟨rfl, hx⟩⟩, (Gr.of_below _ HB.out).trans g2⟩
    | ok r =>
      obtain ⟨n, k⟩ := r
      obtain ⟨_, hk1, hk2⟩ := dInt_ok hd
      have HD := Lib.hid hd
      clear hd
      go_region_held3 (fun W => W.cell? ⟨g, 0, none⟩ = some (.slice s.A s.xs.length s.cap) ∧ W.cell? ⟨g, 1, none⟩ = some (.int .i64 (p : Int))) (first | exact k0 | exact k1 | go_keep) (first | (go_at_call 86; refine Calls.mono (cInt_any s p _ (H.out.inv.below (by exact BW.fin)) (by omega)) ?_; rintro e1 w1 ⟨rfl, b1⟩; rw [rdV_ok HD.out]; unfold vInt; replace HB := BW.next b1; have H1 := Lib.hid (H.out.below HB.out); obtain ⟨k0, k1, _, _, _⟩ := H1.out.cells))
      go_wp2_with fail
      refine Calls.mono (step_ok g k s p 0 _ H1.out) ?_
      rintro e2 w2 ⟨b, rfl, h2, g2⟩
      go_wp2_with fail
      go_ret
      exact ⟨by rw [rdS_ok HD.out]; rfl, ⟨k, 0, h2, hk2, by rw [rdS_ok HD.out]; exact ⟨rfl, rfl⟩⟩, (Gr.of_below _ HB.out).trans g2⟩
end Go.Proofs.Ytndlhmnablefpaa
/-! What record's source does: a row, the end. -/
namespace Go.Proofs.Ytndlhmnablefpaa
open Go.RowKit
set_option linter.unusedSimpArgs false
set_option linter.unusedVariables false
/-- What reading a row leaves. -/
def SRowPost (w : World) (g : Nat) (s : Sl UInt8) (r : List Vl × St) (en : Ending) (w' : World) : Prop := ∃ A c, en = .returned (.slice A r.1.length c) ∧ kVl.Inv w' ⟨A, c, r.1⟩ ∧ (∀ a, A = some a → w.heap.size ≤ a.block) ∧ RSt w' g s r.2 ∧ Gr w w' (some g) (some g)
theorem row_gr {w w' : World} {g B : Nat} {A : Option Addr} {c : Nat} {row : List Vl} (h : kVl.Inv w ⟨A, c, row⟩) (ha : ∀ a, A = some a → B ≤ a.block) (hg : Gr w w' (some g) (some g)) (hB : g < B) : kVl.Inv w' ⟨A, c, row⟩ := by
  refine h.grown hg.by' fun k hk he => ?_
  have hkg := Option.some.inj he
  rcases List.mem_append.1 hk with hk | hk
  · obtain ⟨a, h1, h2, _⟩ := mem_blk hk
    have := ha a h1
    omega
  · simp [kVl, Kd.flat] at hk
set_option maxRecDepth 100000 in
set_option maxHeartbeats 1000000 in
theorem sRow_any (g : Nat) (s : Sl UInt8) (σ : St) (w : World) (h : RSt w g s σ) (hl : s.xs.length ≤ 9223372036854775000) :
    Calls Try.prog 110 #[.pointer (some ⟨g, 0, none⟩)] w (SRowPost w g s (rdS (dRow s.xs) [] σ)) := by
  obtain ⟨p, e, hrs, hst⟩ := h
  obtain ⟨c0, c1, c2, f1, f2⟩ := hrs.cells
  have H := Lib.hid hrs
  have hgl := hrs.lt
  clear hrs
  have HNIL : Hid (∀ w' : World, kVl.Inv w' ⟨none, 0, []⟩) := fun w' => ⟨Nat.le_refl _, Nat.zero_le _, fun _ => rfl, fun h => absurd rfl h, fun _ h => by simp at h⟩
  cases σ with
  | error x =>
    obtain ⟨hp, rfl, hx⟩ := hst
    have hx0 : ¬ e = 0 := by omega
    go_enter Try.func110, Try.ntmps110
    go_wp2_with fail
    go_ret
    exact ⟨none, 0, rfl, HNIL.out _, (fun a h => by cases h), ⟨p, e, H.out, hp, rfl, hx⟩, Gr.refl _ _⟩
  | ok q =>
    obtain ⟨hp, rfl, rfl⟩ := hst
    go_enter Try.func110, Try.ntmps110
    have HB := BW.refl w
    go_wp2_with fail
    cases hd : dRow s.xs p with
    | error x =>
      have hx := dRow_err hd
      have HD := Lib.hid hd
      clear hd
      go_region_held3 (fun W => W.cell? ⟨g, 0, none⟩ = some (.slice s.A s.xs.length s.cap) ∧ W.cell? ⟨g, 1, none⟩ = some (.int .i64 (p : Int))) (first | exact k0 | exact k1 | go_keep) (first | (go_at_call 119; refine Calls.mono (cRow_any s p _ (H.out.inv.below (by exact BW.fin)) (by omega) hl) ?_; rintro e1 w1 ⟨b1, hr⟩; rw [HD.out] at hr; obtain rfl := hr; replace HB := BW.next b1; have H1 := Lib.hid (H.out.below HB.out); obtain ⟨k0, k1, _, _, _⟩ := H1.out.cells))
      go_wp2_with fail
      refine Calls.mono (step_err g 0 x hx s p 0 _ H1.out) ?_
      rintro e2 w2 ⟨b, rfl, h2, g2⟩
      go_wp2_with fail
      go_ret
      exact ⟨none, 0, by rw [rdS_no HD.out]; rfl, by rw [rdS_no HD.out]; exact HNIL.out _, (fun a h => by cases h), ⟨p, x, h2, hp, by rw [rdS_no HD.out]; exact ⟨rfl, hx⟩⟩, (Gr.of_below _ HB.out).trans g2⟩
    | ok r =>
      obtain ⟨row, k⟩ := r
      obtain ⟨_, hk2, _⟩ := dRow_ok hd
      have HD := Lib.hid hd
      clear hd
      go_region_held3 (fun W => W.cell? ⟨g, 0, none⟩ = some (.slice s.A s.xs.length s.cap) ∧ W.cell? ⟨g, 1, none⟩ = some (.int .i64 (p : Int))) (first | exact k0 | exact k1 | go_keep) (first | (go_at_call 119; refine Calls.mono (cRow_any s p _ (H.out.inv.below (by exact BW.fin)) (by omega) hl) ?_; rintro e1 w1 ⟨b1, hr⟩; rw [HD.out] at hr; obtain ⟨A, c, rfl, hri, hra⟩ := hr; have HRI := Lib.hid hri; have HRA := Lib.hid hra; clear hri hra; replace HB := BW.next b1; have H1 := Lib.hid (H.out.below HB.out); obtain ⟨k0, k1, _, _, _⟩ := H1.out.cells))
      go_wp2_with fail
      refine Calls.mono (step_ok g k s p 0 _ H1.out) ?_
      rintro e2 w2 ⟨b, rfl, h2, g2⟩
      go_wp2_with fail
      go_ret
      exact ⟨A, c, by rw [rdS_ok HD.out]; rfl, by rw [rdS_ok HD.out]; exact row_gr (B := w.heap.size) HRI.out (fun a ha => HRA.out a ha) g2 hgl, (fun a ha => HRA.out a ha), ⟨k, 0, h2, hk2, by rw [rdS_ok HD.out]; exact ⟨rfl, rfl⟩⟩, (Gr.of_below _ HB.out).trans g2⟩
/-- The first error, or that bytes are left. -/
def endOf (b : List UInt8) : St → Int
  | .error e => e
  | .ok p => if p < b.length then 3 else 0
set_option maxRecDepth 100000 in
set_option maxHeartbeats 1000000 in
theorem sEnd_any (g : Nat) (s : Sl UInt8) (σ : St) (w : World) (h : RSt w g s σ) :
    Ans Try.prog 90 #[.pointer (some ⟨g, 0, none⟩)] w (.int .i64 (endOf s.xs σ)) := by
  unfold Ans
  obtain ⟨p, e, hrs, hst⟩ := h
  obtain ⟨c0, c1, c2, f1, f2⟩ := hrs.cells
  have H := Lib.hid hrs
  have hgl := hrs.lt
  clear hrs
  have HB := BW.refl w
  cases σ with
  | error x =>
    obtain ⟨hp, rfl, hx⟩ := hst
    have hx0 : ¬ e = 0 := by omega
    have hx1 : (e == 0) = false := by simpa using hx0
    go_enter Try.func90, Try.ntmps90
    go_wp2_with fail
    go_quiet (fail)
    go_wp2_with fail
    go_ret
    exact ⟨rfl, (HB.drewN _).out⟩
  | ok q =>
    obtain ⟨hp, rfl, rfl⟩ := hst
    by_cases hlt : p < s.xs.length
    · have hlt' : (p : Int) < (s.xs.length : Int) := by omega
      have hlt2 : decide (p < s.xs.length) = true := by simpa using hlt
      have HX : Hid (endOf s.xs (.ok p) = 3) := by show _ = _; simp [endOf, hlt]
      go_enter Try.func90, Try.ntmps90
      go_wp2_with fail
      go_quiet (fail)
      go_wp2_with fail
      go_ret
      exact ⟨by rw [HX.out]; rfl, (HB.drewN _).out⟩
    · have hlt' : ¬ (p : Int) < (s.xs.length : Int) := by omega
      have hlt2 : decide (p < s.xs.length) = false := by simpa using hlt
      have HX : Hid (endOf s.xs (.ok p) = 0) := by show _ = _; simp [endOf]; omega
      go_enter Try.func90, Try.ntmps90
      go_wp2_with fail
      go_quiet (fail)
      go_wp2_with fail
      go_ret
      exact ⟨by rw [HX.out]; rfl, (HB.drewN _).out⟩
end Go.Proofs.Ytndlhmnablefpaa
/-! What record's source does: a period. -/
namespace Go.Proofs.Ytndlhmnablefpaa
open Go.RowKit
set_option linter.unusedSimpArgs false
set_option linter.unusedVariables false
/-- What reading a period leaves. -/
def SPerPost (w : World) (g : Nat) (s : Sl UInt8) (r : (Int × Int) × St) (en : Ending) (w' : World) : Prop := en = .returned (vPer r.1) ∧ RSt w' g s r.2 ∧ Gr w w' (some g) (some g)
theorem cell_set2 {W : World} {g o b x y : Nat} {v u : Value} (h : g ≠ b) : ((W.setCell ⟨b, x, none⟩ v).setCell ⟨b, y, none⟩ u).cell? ⟨g, o, none⟩ = W.cell? ⟨g, o, none⟩ := by
  rw [World.cell?_of_block (w := W) (a := ⟨g, o, none⟩)]
  rw [Below.heap_setCell _ _ _ _ h, Below.heap_setCell _ _ _ _ h]
/-- Behind the reading of a period: where the three results stand. -/
structure PerCut (w : World) (g : Nat) (s : Sl UInt8) (p : Nat) (s3 s4 s5 : Value) (wx : World) : Prop where
  bw : BW w wx
  zb : wx.heap[w.heap.size]? = some (.cells #[.int .i64 0, .int .i64 0] 49 (0, 0))
  box : ∃ b a1 a2 k x, s3 = .pointer (some ⟨b, 0, none⟩) ∧ s4 = .int .i64 k ∧ s5 = .int .i64 x ∧ w.heap.size < b ∧ wx.heap[b]? = some (.cells #[.int .i64 a1, .int .i64 a2] 49 (0, 0)) ∧ rdV vPer (vPer (0, 0)) (dPer s.xs p) = .tuple #[vPer (a1, a2), .int .i64 k, .int .i64 x]
def zPer : Obj := .cells #[.int .i64 0, .int .i64 0] 49
theorem perCut_after {w w1 : World} {g : Nat} {s : Sl UInt8} {p : Nat} {a1 a2 k x : Int} (b1 : Below ((w.alloc zPer).drew).heap.size (w.alloc zPer).drew w1) (hr : rdV vPer (vPer (0, 0)) (dPer s.xs p) = .tuple #[vPer (a1, a2), .int .i64 k, .int .i64 x]) :
    PerCut w g s p (.pointer (some ⟨w1.heap.size, 0, none⟩)) (.int .i64 k) (.int .i64 x) (w1.alloc (.cells #[.int .i64 a1, .int .i64 a2] 49)) := by
  have hs : w.heap.size < w1.heap.size := by have := b1.size; simp [World.drew] at this; omega
  have hz : w1.heap[w.heap.size]? = some zPer := (b1.block _ (by simp [World.drew])).trans (heap_alloc_new w _)
  refine ⟨(BW.next b1).alloc _, ?_, ⟨_, a1, a2, k, x, rfl, rfl, rfl, hs, heap_alloc_new w1 _, hr⟩⟩
  rw [heap_alloc_old w1 _ hs]; exact hz
theorem perCut_before {w w1 : World} {g : Nat} {s : Sl UInt8} {p : Nat} {a1 a2 k x : Int} (b1 : Below (((w.alloc zPer).alloc zPer).drew).heap.size ((w.alloc zPer).alloc zPer).drew w1) (hr : rdV vPer (vPer (0, 0)) (dPer s.xs p) = .tuple #[vPer (a1, a2), .int .i64 k, .int .i64 x]) :
    PerCut w g s p (.pointer (some ⟨w.heap.size + 1, 0, none⟩)) (.int .i64 k) (.int .i64 x) ((w1.setCell ⟨w.heap.size + 1, 0, none⟩ (.int .i64 a1)).setCell ⟨w.heap.size + 1, 1, none⟩ (.int .i64 a2)) := by
  have hz : w1.heap[w.heap.size]? = some zPer := (b1.block _ (by simp [World.drew]; omega)).trans ((heap_alloc_old (w.alloc zPer) _ (by simp)).trans (heap_alloc_new w _))
  have hy : w1.heap[w.heap.size + 1]? = some zPer := (b1.block _ (by simp [World.drew])).trans (heap_new (W := w.alloc zPer) (by simp))
  refine ⟨((BW.next b1).setCell (by simp) _).setCell (by simp) _, ?_, ⟨_, a1, a2, k, x, rfl, rfl, rfl, by omega, ?_, hr⟩⟩
  · rw [Below.heap_setCell _ _ _ _ (by simp), Below.heap_setCell _ _ _ _ (by simp)]; exact hz
  · simp [World.setCell, Array.getElem?_modify, hy, zPer]
/-- The two boxes, behind the step. -/
theorem per_cells {w wc w2 : World} {g b : Nat} {a1 a2 : Int} (hz : wc.heap[w.heap.size]? = some (.cells #[.int .i64 0, .int .i64 0] 49 (0, 0))) (hx : wc.heap[b]? = some (.cells #[.int .i64 a1, .int .i64 a2] 49 (0, 0))) (hg : Gr wc w2 (some g) (some g)) (hgl : g < w.heap.size) (hb : w.heap.size < b) :
    w2.cell? ⟨w.heap.size, 0, none⟩ = some (.int .i64 0) ∧ w2.cell? ⟨w.heap.size, 1, none⟩ = some (.int .i64 0) ∧ w2.cell? ⟨b, 0, none⟩ = some (.int .i64 a1) ∧ w2.cell? ⟨b, 1, none⟩ = some (.int .i64 a2) ∧ w2.frozen? ⟨w.heap.size, 0, none⟩ = false ∧ w2.frozen? ⟨w.heap.size, 1, none⟩ = false ∧ w.heap.size < w2.heap.size := by
  have h1 := (hg.by'.block w.heap.size (Array.getElem?_eq_some_iff.1 hz).1 (fun e => by have := Option.some.inj e; omega)).trans hz
  have h2 := (hg.by'.block b (Array.getElem?_eq_some_iff.1 hx).1 (fun e => by have := Option.some.inj e; omega)).trans hx
  refine ⟨?_, ?_, ?_, ?_, ?_, ?_, (Array.getElem?_eq_some_iff.1 h1).1⟩
  · rw [cell_of_row w2 _ 0 _ _ _ h1]; rfl
  · rw [cell_of_row w2 _ 1 _ _ _ h1]; rfl
  · rw [cell_of_row w2 _ 0 _ _ _ h2]; rfl
  · rw [cell_of_row w2 _ 1 _ _ _ h2]; rfl
  all_goals simp [World.frozen?, h1]
theorem Gr.setNew {w V : World} {g z o : Nat} {v : Value} (h : Gr w V (some g) (some g)) (hz : w.heap.size ≤ z) : Gr w (V.setCell ⟨z, o, none⟩ v) (some g) (some g) :=
  ⟨⟨h.by'.os, h.by'.tape, h.by'.output, by simpa using h.by'.size, fun k hk hne => (Below.heap_setCell _ _ _ _ (show k ≠ z by omega)).trans (h.by'.block k hk hne)⟩, .inl rfl⟩
theorem RS.setNew {V : World} {g z o : Nat} {v : Value} {s : Sl UInt8} {p : Nat} {e : Int} (h : RS V g s p e) (hg : g ≠ z) (hs : ∀ k, k ∈ s.foot kByte → k ≠ z) : RS (V.setCell ⟨z, o, none⟩ v) g s p e :=
  ⟨(Below.heap_setCell _ _ _ _ hg).trans h.heap, h.inv.move fun k hk => Below.heap_setCell _ _ _ _ (hs k hk), h.apart⟩
set_option maxRecDepth 100000 in
set_option maxHeartbeats 1000000 in
theorem sPer_any (g : Nat) (s : Sl UInt8) (σ : St) (w : World) (h : RSt w g s σ) (hl : s.xs.length ≤ 9223372036854775000) :
    Calls Try.prog 111 #[.pointer (some ⟨g, 0, none⟩)] w (SPerPost w g s (rdS (dPer s.xs) (0, 0) σ)) := by
  obtain ⟨p, e, hrs, hst⟩ := h
  obtain ⟨c0, c1, c2, f1, f2⟩ := hrs.cells
  have H := Lib.hid hrs
  have hgl := hrs.lt
  clear hrs
  have HB := BW.refl w
  cases σ with
  | error x =>
    obtain ⟨hp, rfl, hx⟩ := hst
    have hx0 : ¬ e = 0 := by omega
    go_enter Try.func111, Try.ntmps111
    go_wp2_with fail
    exact bodyPost_ret (v := vPer (0, 0)) (by simp [results, Try.results111, go_sem, vPer]) rfl ⟨rfl, ⟨p, e, H.out.below bw3, hp, rfl, hx⟩, Gr.of_below _ bw3⟩
  | ok q =>
    obtain ⟨hp, rfl, rfl⟩ := hst
    go_enter Try.func111, Try.ntmps111
    go_wp2_with fail
    go_upto_region 3 with fail
    go_cut [3, 4, 5] from 12 (fun s3 s4 s5 wx => Hid (PerCut w g s p s3 s4 s5 wx))
    case first =>
      obtain ⟨a1, a2, k, x, hr⟩ : ∃ a1 a2 k x : Int, rdV vPer (vPer (0, 0)) (dPer s.xs p) = .tuple #[vPer (a1, a2), .int .i64 k, .int .i64 x] := by
        cases dPer s.xs p with
        | error x => exact ⟨0, 0, 0, x, rfl⟩
        | ok r => exact ⟨r.1.1, r.1.2, r.2, 0, rfl⟩
      have HRD := Lib.hid hr
      clear hr
      go_region_held3 (fun W => W.cell? ⟨g, 0, none⟩ = some (.slice s.A s.xs.length s.cap) ∧ W.cell? ⟨g, 1, none⟩ = some (.int .i64 (p : Int))) (first | go_keep | (refine ⟨?_, ?_⟩ <;> (first | exact k0 | exact k1 | (rw [cell_set2 (by omega)]; first | exact k0 | exact k1) | go_keep))) (first | (go_at_call 87; refine Calls.mono (cPeriod_any s p _ (H.out.inv.below (by exact BW.fin)) (by omega)) ?_; rintro e1 w1 ⟨rfl, b1⟩; rw [HRD.out]; unfold vPer; have hcc := bcell b1; have hff := bfroz b1; have HBW1 := BW.next (w := w) b1; have HB1 := Lib.hid b1; have H1 := Lib.hid (H.out.below HBW1.out); obtain ⟨k0, k1, _, _, _⟩ := H1.out.cells; have hg1 := H1.out.lt))
      all_goals
        go_wp2_with fail
        go_meet
        first
          | exact perCut_after HB1.out HRD.out
          | exact perCut_before HB1.out HRD.out
    case rest =>
      obtain ⟨bw, zb, b, a1, a2, k, x, rfl, rfl, rfl, hb, hbx, hrd⟩ := hcut.out
      have HRD := Lib.hid hrd
      have HX1 := Lib.hid hbx
      have HZ1 := Lib.hid zb
      have H1 := Lib.hid (H.out.below bw.out)
      have HNF : Hid (∀ k, k ∈ s.foot kByte → k ≠ w.heap.size) := fun k hk => by have := H.out.inv.lt k hk; omega
      clear hrd hbx zb hcut c0 c1 c2 f1 f2 HB
      cases hd : dPer s.xs p with
      | error y =>
        have hx := dPer_err hd
        have HD := Lib.hid hd
        have he := HRD.out
        rw [rdV_err hd] at he
        simp only [Value.tuple.injEq, Array.mk.injEq, vPer, Value.agg.injEq, List.cons.injEq, Value.int.injEq, true_and, and_true] at he
        obtain ⟨⟨rfl, rfl⟩, rfl, rfl⟩ := he
        clear hd HRD
        go_wp2_with fail
        refine Calls.mono (step_err g 0 y hx s p 0 _ H1.out) ?_
        rintro e2 w2 ⟨bb, rfl, h2, g2⟩
        obtain ⟨z0, z1, y0, y1, f0, f1, hz⟩ := per_cells HZ1.out HX1.out g2 hgl hb
        go_wp2_with fail
        have HG : Gr w w2 (some g) (some g) := (Gr.of_below _ bw.out).trans g2
        exact bodyPost_ret (v := vPer (0, 0)) (by simp [results, Try.results111, go_sem, vPer, z0, z1, hz]) rfl ⟨by rw [rdS_no HD.out], ⟨p, y, (h2.setNew (show g ≠ w.heap.size by omega) HNF.out).setNew (show g ≠ w.heap.size by omega) HNF.out, hp, by rw [rdS_no HD.out]; exact ⟨rfl, hx⟩⟩, (HG.setNew (Nat.le_refl _)).setNew (Nat.le_refl _)⟩
      | ok r =>
        obtain ⟨⟨f, t⟩, k'⟩ := r
        obtain ⟨_, hk2, _⟩ := dPer_ok hd
        have HD := Lib.hid hd
        have he := HRD.out
        rw [rdV_ok hd] at he
        simp only [Value.tuple.injEq, Array.mk.injEq, vPer, Value.agg.injEq, List.cons.injEq, Value.int.injEq, true_and, and_true] at he
        obtain ⟨⟨rfl, rfl⟩, rfl, rfl⟩ := he
        clear hd HRD
        go_wp2_with fail
        refine Calls.mono (step_ok g k' s p 0 _ H1.out) ?_
        rintro e2 w2 ⟨bb, rfl, h2, g2⟩
        obtain ⟨z0, z1, y0, y1, f0, f1, hz⟩ := per_cells HZ1.out HX1.out g2 hgl hb
        go_wp2_with fail
        have HG : Gr w w2 (some g) (some g) := (Gr.of_below _ bw.out).trans g2
        exact bodyPost_ret (v := vPer (f, t)) (by simp [results, Try.results111, go_sem, vPer, z0, z1, hz]) rfl ⟨by rw [rdS_ok HD.out], ⟨k', 0, (h2.setNew (show g ≠ w.heap.size by omega) HNF.out).setNew (show g ≠ w.heap.size by omega) HNF.out, hk2, by rw [rdS_ok HD.out]; exact ⟨rfl, rfl⟩⟩, (HG.setNew (Nat.le_refl _)).setNew (Nat.le_refl _)⟩
end Go.Proofs.Ytndlhmnablefpaa
/-! What record's reader does: a version. -/
namespace Go.Proofs.Ytndlhmnablefpaa
open Go.RowKit
set_option linter.unusedSimpArgs false
set_option linter.unusedVariables false
/-- V' is V but for block z. -/
structure Bar (z : Nat) (V V' : World) : Prop where
  os : V'.os = V.os
  tape : V'.tape = V.tape
  output : V'.output = V.output
  size : V'.heap.size = V.heap.size
  block : ∀ k, k ≠ z → V'.heap[k]? = V.heap[k]?
theorem Bar.refl (z : Nat) (V : World) : Bar z V V := ⟨rfl, rfl, rfl, rfl, fun _ _ => rfl⟩
theorem Bar.set {z o : Nat} {V V' : World} {v : Value} (h : Bar z V V') : Bar z V (V'.setCell ⟨z, o, none⟩ v) :=
  ⟨h.os, h.tape, h.output, by simpa using h.size, fun k hk => (Below.heap_setCell _ _ _ _ (show k ≠ z from hk)).trans (h.block k hk)⟩
theorem Gr.bar {w V V' : World} {g z : Nat} (h : Gr w V (some g) (some g)) (hb : Bar z V V') (hz : w.heap.size ≤ z) : Gr w V' (some g) (some g) :=
  ⟨⟨hb.os.trans h.by'.os, hb.tape.trans h.by'.tape, hb.output.trans h.by'.output, by rw [hb.size]; exact h.by'.size, fun k hk hne => (hb.block k (by omega)).trans (h.by'.block k hk hne)⟩, .inl rfl⟩
theorem RSt.bar {V V' : World} {g z : Nat} {s : Sl UInt8} {σ : St} (h : RSt V g s σ) (hb : Bar z V V') (hg : g ≠ z) (hs : ∀ k, k ∈ s.foot kByte → k ≠ z) : RSt V' g s σ := by
  obtain ⟨p, e, h1, h2⟩ := h
  exact ⟨p, e, ⟨(hb.block g hg).trans h1.heap, h1.inv.move fun k hk => hb.block k (hs k hk), h1.apart⟩, h2⟩
theorem row_bar {w w' : World} {z B : Nat} {A : Option Addr} {c : Nat} {row : List Vl} (h : kVl.Inv w ⟨A, c, row⟩) (ha : ∀ a, A = some a → B ≤ a.block) (hb : Bar z w w') (hB : z < B) : kVl.Inv w' ⟨A, c, row⟩ := by
  refine h.move fun k hk => hb.block k ?_
  rcases List.mem_append.1 hk with hk | hk
  · obtain ⟨a, h1, h2, _⟩ := mem_blk hk
    have := ha a h1
    omega
  · simp [kVl, Kd.flat] at hk
def zVer : Obj := .cells #[.int .i64 0, .int .i64 0, .slice none 0 0, .int .i64 0, .int .i64 0, .int .i64 0, .int .i64 0, .int .i64 0, .int .i64 0] 59
/-- The cells of the result's box. -/
theorem zver_cells {w w2 : World} {g : Nat} (hg : Gr (w.alloc zVer) w2 (some g) (some g)) (hgl : g < w.heap.size) : (∀ j, j < 9 → ∃ v, w2.cell? ⟨w.heap.size, j, none⟩ = some v) ∧ (∀ j, w2.frozen? ⟨w.heap.size, j, none⟩ = false) ∧ w.heap.size < w2.heap.size := by
  have h1 := (hg.by'.block w.heap.size (by simp) (fun e => by have := Option.some.inj e; omega)).trans (heap_alloc_new w zVer)
  refine ⟨fun j hj => ?_, fun j => by simp [World.frozen?, h1, zVer], (Array.getElem?_eq_some_iff.1 h1).1⟩
  unfold zVer at h1
  rw [cell_of_row w2 _ j _ _ _ h1]
  exact ⟨_, Array.getElem?_eq_getElem (by simpa using hj)⟩
/-- What reading a number, a row, a period leaves: the same, under names. -/
theorem sInt_named (g : Nat) (s : Sl UInt8) (σ : St) (w : World) (h : RSt w g s σ) (hl : s.xs.length ≤ 9223372036854775000) :
    Calls Try.prog 109 #[.pointer (some ⟨g, 0, none⟩)] w (fun en w' => ∃ v σ', Hid (rdS (dInt s.xs) 0 σ = (v, σ')) ∧ en = .returned (.int .i64 v) ∧ Hid (RSt w' g s σ') ∧ Gr w w' (some g) (some g)) :=
  (sInt_any g s σ w h hl).mono fun _ _ ⟨h1, h2, h3⟩ => ⟨_, _, rfl, h1, h2, h3⟩
theorem sRow_named (g : Nat) (s : Sl UInt8) (σ : St) (w : World) (h : RSt w g s σ) (hl : s.xs.length ≤ 9223372036854775000) :
    Calls Try.prog 110 #[.pointer (some ⟨g, 0, none⟩)] w (fun en w' => ∃ v σ' A c, Hid (rdS (dRow s.xs) [] σ = (v, σ')) ∧ en = .returned (.slice A v.length c) ∧ Hid (kVl.Inv w' ⟨A, c, v⟩) ∧ Hid (∀ a, A = some a → w.heap.size ≤ a.block) ∧ Hid (RSt w' g s σ') ∧ Gr w w' (some g) (some g)) :=
  (sRow_any g s σ w h hl).mono fun _ _ ⟨A, c, h1, h2, h3, h4, h5⟩ => ⟨_, _, A, c, rfl, h1, h2, h3, h4, h5⟩
theorem sPer_named (g : Nat) (s : Sl UInt8) (σ : St) (w : World) (h : RSt w g s σ) (hl : s.xs.length ≤ 9223372036854775000) :
    Calls Try.prog 111 #[.pointer (some ⟨g, 0, none⟩)] w (fun en w' => ∃ a b σ', Hid (rdS (dPer s.xs) (0, 0) σ = ((a, b), σ')) ∧ en = .returned (.agg #[.int .i64 a, .int .i64 b]) ∧ Hid (RSt w' g s σ') ∧ Gr w w' (some g) (some g)) :=
  (sPer_any g s σ w h hl).mono fun _ _ ⟨h1, h2, h3⟩ => ⟨_, _, _, rfl, h1, h2, h3⟩
theorem sVer_of {b : List UInt8} {σ σ1 σ2 σ3 σ4 σ5 σ6 σ7 : St} {id sch by' un a4 b4 a5 b5 : Int} {row : List Vl} (h1 : rdS (dInt b) 0 σ = (id, σ1)) (h2 : rdS (dInt b) 0 σ1 = (sch, σ2)) (h3 : rdS (dRow b) [] σ2 = (row, σ3)) (h4 : rdS (dPer b) (0, 0) σ3 = ((a4, b4), σ4)) (h5 : rdS (dPer b) (0, 0) σ4 = ((a5, b5), σ5)) (h6 : rdS (dInt b) 0 σ5 = (by', σ6)) (h7 : rdS (dInt b) 0 σ6 = (un, σ7)) :
    sVer b σ = (⟨id, sch, row, a4, b4, a5, b5, by', un⟩, σ7) := by
  unfold sVer
  simp only [h1, h2, h3, h4, h5, h6, h7, verOf]
/-- What reading a version leaves. -/
def SVerPost (w : World) (g : Nat) (s : Sl UInt8) (r : PVer × St) (en : Ending) (w' : World) : Prop := ∃ z : Ver, z.p = r.1 ∧ en = .returned (.agg z.cells.toArray) ∧ kVer.inv w' z ∧ (∀ k, k ∈ kVer.foot z → w.heap.size ≤ k) ∧ RSt w' g s r.2 ∧ Gr w w' (some g) (some g)
set_option maxRecDepth 100000 in
set_option maxHeartbeats 4000000 in
theorem rVer_any (g : Nat) (s : Sl UInt8) (σ : St) (w : World) (h : RSt w g s σ) (hgl : g < w.heap.size) (hl : s.xs.length ≤ 9223372036854775000) :
    Calls Try.prog 89 #[.pointer (some ⟨g, 0, none⟩)] w (SVerPost w g s (sVer s.xs σ)) := by
  have H := Lib.hid h
  clear h
  have HNF : Hid (∀ k, k ∈ s.foot kByte → k ≠ w.heap.size) := fun k hk => by
    obtain ⟨p, e, h1, h2⟩ := H.out
    have := h1.inv.lt k hk
    omega
  go_enter Try.func89, Try.ntmps89
  go_wp2_with fail
  have HS0 : Hid (RSt (w.alloc zVer) g s σ) := H.out.below ((BW.refl w).alloc _).out
  have HS0' : Hid (RSt (w.alloc zVer).drew g s σ) := H.out.below ((BW.refl w).alloc _).drew.out
  have HG0 : Gr (w.alloc zVer) (w.alloc zVer) (some g) (some g) := Gr.refl _ _
  go_region_held3 (fun _ => True) (trivial) (first
    | (go_at_call 109; refine Calls.mono (sInt_named g s _ _ HS0'.out hl) ?_; rintro e1 w1 ⟨v1, σ1, HR1, rfl, HS1, g1⟩; have HG1 := HG0.trans ((Gr.of_below (some g) ((BW.refl (w.alloc zVer)).drew).out).trans g1); clear HS0')
    | (go_at_call 109; refine Calls.mono (sInt_named g s _ _ (HS1.out.below (by exact BW.fin)) hl) ?_; rintro e2 w2 ⟨v2, σ2, HR2, rfl, HS2, g2⟩; have HG2 := HG1.trans ((Gr.fin (w := w1) (r := some g) (r' := some g)).trans g2); clear HS1)
    | (go_at_call 110; refine Calls.mono (sRow_named g s _ _ (HS2.out.below (by exact BW.fin)) hl) ?_; rintro e3 w3 ⟨v3, σ3, A, c, HR3, rfl, HK3, HA3, HS3, g3⟩; have HG3 := HG2.trans ((Gr.fin (w := w2) (r := some g) (r' := some g)).trans g3); clear HS2)
    | (go_at_call 111; refine Calls.mono (sPer_named g s _ _ (HS3.out.below (by exact BW.fin)) hl) ?_; rintro e4 w4 ⟨a4, b4, σ4, HR4, rfl, HS4, g4⟩; have HG4 := HG3.trans ((Gr.fin (w := w3) (r := some g) (r' := some g)).trans g4); clear HS3)
    | (go_at_call 111; refine Calls.mono (sPer_named g s _ _ (HS4.out.below (by exact BW.fin)) hl) ?_; rintro e5 w5 ⟨a5, b5, σ5, HR5, rfl, HS5, g5⟩; have HG5 := HG4.trans ((Gr.fin (w := w4) (r := some g) (r' := some g)).trans g5); clear HS4)
    | (go_at_call 109; refine Calls.mono (sInt_named g s _ _ (HS5.out.below (by exact BW.fin)) hl) ?_; rintro e6 w6 ⟨v6, σ6, HR6, rfl, HS6, g6⟩; have HG6 := HG5.trans ((Gr.fin (w := w5) (r := some g) (r' := some g)).trans g6); clear HS5)
    | (go_at_call 109; refine Calls.mono (sInt_named g s _ _ (HS6.out.below (by exact BW.fin)) hl) ?_; rintro e7 w7 ⟨v7, σ7, HR7, rfl, HS7, g7⟩; obtain ⟨zc, zf, zs⟩ := zver_cells (HG6.trans ((Gr.fin (w := w6) (r := some g) (r' := some g)).trans g7)) hgl; obtain ⟨u0, x0⟩ := zc 0 (by decide); obtain ⟨u1, x1⟩ := zc 1 (by decide); obtain ⟨u2, x2⟩ := zc 2 (by decide); obtain ⟨u3, x3⟩ := zc 3 (by decide); obtain ⟨u4, x4⟩ := zc 4 (by decide); obtain ⟨u5, x5⟩ := zc 5 (by decide); obtain ⟨u6, x6⟩ := zc 6 (by decide); obtain ⟨u7, x7⟩ := zc 7 (by decide); obtain ⟨u8, x8⟩ := zc 8 (by decide); clear zc; have HG7 := HG6.trans ((Gr.fin (w := w6) (r := some g) (r' := some g)).trans g7); clear HS6))
  have HA : ∀ a, A = some a → w.heap.size + 1 ≤ a.block := fun a ha => by
    have h1 := HA3.out a ha
    have h2 := HG2.size
    simp at h2
    exact Nat.le_trans h2 (by first | exact h1 | exact Nat.le_trans (by simp [World.drew]) h1)
  have HAH := Lib.hid HA
  clear HA
  have hg1 : g < w.heap.size + 1 := by omega
  have q4 : Gr w3 w4 (some g) (some g) := by first | exact g4 | exact (Gr.fin (w := w3) (r := some g) (r' := some g)).trans g4
  have q5 : Gr w4 w5 (some g) (some g) := by first | exact g5 | exact (Gr.fin (w := w4) (r := some g) (r' := some g)).trans g5
  have q6 : Gr w5 w6 (some g) (some g) := by first | exact g6 | exact (Gr.fin (w := w5) (r := some g) (r' := some g)).trans g6
  have q7 : Gr w6 w7 (some g) (some g) := by first | exact g7 | exact (Gr.fin (w := w6) (r := some g) (r' := some g)).trans g7
  have HK4 := Lib.hid (row_gr (B := w.heap.size + 1) HK3.out HAH.out q4 hg1)
  have HK5 := Lib.hid (row_gr (B := w.heap.size + 1) HK4.out HAH.out q5 hg1)
  have HK6 := Lib.hid (row_gr (B := w.heap.size + 1) HK5.out HAH.out q6 hg1)
  have HK7 := Lib.hid (row_gr (B := w.heap.size + 1) HK6.out HAH.out q7 hg1)
  have HV := Lib.hid (sVer_of HR1.out HR2.out HR3.out HR4.out HR5.out HR6.out HR7.out)
  have HGW : Gr w w7 (some g) (some g) := (Gr.of_below (some g) ((BW.refl w).alloc zVer).out).trans HG7
  go_wp2_with fail
  refine bodyPost_ret (v := .agg #[.int .i64 v1, .int .i64 v2, .slice A v3.length c, .int .i64 a4, .int .i64 b4, .int .i64 a5, .int .i64 b5, .int .i64 v6, .int .i64 v7]) (by simp [results, Try.results89, go_sem, x0, x1, x2, x3, x4, x5, x6, x7, x8, zs]) rfl ⟨⟨⟨v1, v2, v3, a4, b4, a5, b5, v6, v7⟩, A, c⟩, by rw [HV.out], rfl, ?_, fun k hk => ?_, ?_, ?_⟩
  · show kVl.Inv _ (⟨A, c, v3⟩ : Sl Vl)
    refine row_bar (z := w.heap.size) (B := w.heap.size + 1) HK7.out HAH.out ?_ (by omega)
    exact (Bar.refl _ _).set.set.set.set.set.set.set.set.set
  · rcases List.mem_append.1 hk with hk | hk
    · obtain ⟨a, h1, h2, _⟩ := mem_blk hk
      have := HAH.out a h1
      omega
    · simp [kVl, Kd.flat] at hk
  · rw [HV.out]
    refine HS7.out.bar (z := w.heap.size) ?_ (by omega) HNF.out
    exact (Bar.refl _ _).set.set.set.set.set.set.set.set.set
  · refine HGW.bar (z := w.heap.size) ?_ (Nat.le_refl _)
    exact (Bar.refl _ _).set.set.set.set.set.set.set.set.set
end Go.Proofs.Ytndlhmnablefpaa
/-! What record's get does: a list of versions. -/
namespace Go.Proofs.Ytndlhmnablefpaa
open Go.RowKit
set_option linter.unusedSimpArgs false
set_option linter.unusedVariables false
theorem dVer_err {b : List UInt8} {p : Nat} {e : Int} (h : dVer b p = .error e) : 0 < e := by
  unfold dVer at h
  repeat' split at h
  all_goals first
    | (simp at h; done)
    | (rename_i he; simp only [Except.error.injEq] at h; subst h; first | exact dRow_err he | exact dPer_err he | (have := dInt_err he; omega))
/-- The list behind its number, or the error. -/
def dGet (b : List UInt8) (p : Nat) : Rd (List PVer) :=
  match dInt b p with
  | .error e => .error e
  | .ok (n, k) => if n < 0 then .error 1 else dMany (dVer b) n.toNat k []
/-- How far the list has been read. -/
def GetAt (b : List UInt8) (N k0 i : Nat) (l : List PVer) : St → Prop
  | .ok q => i ≤ N ∧ l.length = i ∧ i ≤ q ∧ q ≤ b.length ∧ dMany (dVer b) N k0 [] = dMany (dVer b) (N - i) q l
  | .error e => dMany (dVer b) N k0 [] = .error e ∧ 0 < e ∧ l.length ≤ b.length + 1
theorem GetAt.next {b : List UInt8} {N k0 i q : Nat} {l : List PVer} (h : GetAt b N k0 i l (.ok q)) (hi : i < N) {z : PVer} (hz : z = (sVer b (.ok q)).1) : GetAt b N k0 (i + 1) (l ++ [z]) (sVer b (.ok q)).2 := by
  obtain ⟨h1, h2, h3, h4, h5⟩ := h
  obtain ⟨s1, s2⟩ := sVer_dVer b q
  cases hd : dVer b q with
  | error e =>
    rw [s1 e hd]
    exact ⟨by rw [h5, show N - i = (N - (i + 1)) + 1 by omega, dMany, hd], dVer_err hd, by simp; omega⟩
  | ok r =>
    obtain ⟨v, k⟩ := r
    rw [s2 v k hd] at hz ⊢
    subst hz
    obtain ⟨k1, k2⟩ := dVer_ok hd
    exact ⟨by omega, by simp [h2], by omega, k2, by rw [h5, show N - i = (N - (i + 1)) + 1 by omega, dMany, hd]⟩
/-- Writes to a row that is new: what was there but for g is as it was. -/
theorem Gr.apd {w W V : World} {g : Nat} {row row' : Option Nat} (h : Gr w W (some g) (some g)) (hg : Gr W V row row') (hr : ∀ q, row = some q → w.heap.size ≤ q) : Gr w V (some g) (some g) :=
  ⟨⟨hg.by'.os.trans h.by'.os, hg.by'.tape.trans h.by'.tape, hg.by'.output.trans h.by'.output, Nat.le_trans h.by'.size hg.by'.size, fun k hk hne => (hg.by'.block k (Nat.lt_of_lt_of_le hk h.by'.size) (fun e => by have := hr k e.symm; omega)).trans (h.by'.block k hk hne)⟩, .inl rfl⟩
theorem RSt.apd {W V : World} {g B : Nat} {s : Sl UInt8} {σ : St} {row row' : Option Nat} (h : RSt W g s σ) (hg : Gr W V row row') (hr : ∀ q, row = some q → B ≤ q) (hgB : g < B) (hs : ∀ k, k ∈ s.foot kByte → k < B) : RSt V g s σ := by
  obtain ⟨p, e, h1, h2⟩ := h
  refine ⟨p, e, ⟨(hg.by'.block g h1.lt (fun e => by have := hr g e.symm; omega)).trans h1.heap, h1.inv.grown hg.by' (fun k hk e => by have := hr k e.symm; have := hs k hk; omega), h1.apart⟩, h2⟩
theorem RSt.lt {W : World} {g : Nat} {s : Sl UInt8} {σ : St} (h : RSt W g s σ) : g < W.heap.size := by
  obtain ⟨p, e, h1, _⟩ := h; exact h1.lt
theorem pv_snoc (ys : List Ver) (z : Ver) : pv (ys ++ [z]) = pv ys ++ [z.p] := by simp [pv]
/-- What get leaves. -/
def GetPost (w : World) (g : Nat) (s : Sl UInt8) (r : Rd (List PVer)) (en : Ending) (w' : World) : Prop := ∃ v ys σ, en = .returned v ∧ Own kVer 59 w' w.heap.size v ys ∧ RSt w' g s σ ∧ Gr w w' (some g) (some g) ∧ (match r with | .error e => σ = .error e | .ok (l, k) => σ = .ok k ∧ pv ys = l) ∧ ∀ x, x ∈ ys → ∀ k, k ∈ kVer.foot x → w.heap.size ≤ k
set_option maxRecDepth 100000 in
set_option maxHeartbeats 4000000 in
theorem get_vers (g : Nat) (s : Sl UInt8) (p0 : Nat) (w : World) (h : RSt w g s (.ok p0)) (hl : s.xs.length ≤ 1048576) :
    Calls Try.prog 88 #[.pointer (some ⟨g, 0, none⟩), .func (.func 89) #[] #[]] w (GetPost w g s (dGet s.xs p0)) := by
  have H := Lib.hid h
  have hgl := h.lt
  have HNF : Hid (∀ k, k ∈ s.foot kByte → k < w.heap.size) := fun k hk => by
    obtain ⟨p, e, h1, h2⟩ := H.out
    exact h1.inv.lt k hk
  clear h
  go_enter Try.func88, Try.ntmps88
  go_wp2_with fail
  refine Calls.mono (sInt_any g s (.ok p0) _ H.out (by omega)) ?_
  rintro e1 w1 ⟨rfl, hs1, g1⟩
  cases hd : dInt s.xs p0 with
  | error e =>
    have hde := dInt_err hd
    rw [rdS_no hd] at hs1 ⊢
    have HX : Hid (dGet s.xs p0 = .error e) := by show _ = _; simp only [dGet, hd]
    have HS1 := Lib.hid hs1
    obtain ⟨p, x, hrs, hp, rfl, hx⟩ := hs1
    obtain ⟨c0, c1, c2, f1, f2⟩ := hrs.cells
    have hx0 : ¬ x = 0 := by omega
    have hx1 : (x == 0) = false := by simpa using hx0
    clear hrs hd hde
    go_wp2_with fail
    go_loopw [6, 7] (fun v i wr => v = .slice none 0 0 ∧ i = .int .i64 0 ∧ wr = w1) (fun _ i _ => (intOf i).toNat)
    case atStart => exact ⟨rfl, rfl, rfl⟩
    case round =>
      obtain ⟨rfl, rfl, rfl⟩ := hrel
      go_wp2_with fail
      all_goals
        go_ret
        exact ⟨_, [], .error x, rfl, Own.nil _ _ _ _, HS1.out, g1, by rw [HX.out], (fun x hx => by simp at hx)⟩
  | ok r =>
    obtain ⟨n, k0⟩ := r
    obtain ⟨_, hk1, hk2⟩ := dInt_ok hd
    rw [rdS_ok hd] at hs1 ⊢
    have HS1 := Lib.hid hs1
    obtain ⟨p, x, hrs, hp, rfl, rfl⟩ := hs1
    obtain ⟨c0, c1, c2, f1, f2⟩ := hrs.cells
    have HRS := Lib.hid hrs
    clear hrs
    by_cases hn : n < 0
    · have HX : Hid (dGet s.xs p0 = .error 1) := by show _ = _; simp only [dGet, hd]; rw [if_pos hn]
      have hn0 : ¬ 0 < n := by omega
      clear hd
      go_wp2_with fail
      have HW : Gr w1 (w1.setCell ⟨g, 2, none⟩ (.int .i64 1)) (some g) (some g) := setCell_gr _ _ _ _
      have HS2 : Hid (RSt (w1.setCell ⟨g, 2, none⟩ (.int .i64 1)) g s (.error 1)) := ⟨p, 1, HRS.out.setErr 1, hp, rfl, by decide⟩
      obtain ⟨wz, hwz⟩ : ∃ wz, wz = w1.setCell ⟨g, 2, none⟩ (.int .i64 1) := ⟨_, rfl⟩
      rw [← hwz] at HW HS2 ⊢
      clear hwz
      go_loopw [6, 7] (fun v i wr => v = .slice none 0 0 ∧ i = .int .i64 0 ∧ wr = wz) (fun _ i _ => (intOf i).toNat)
      case atStart => exact ⟨rfl, rfl, rfl⟩
      case round =>
        obtain ⟨rfl, rfl, rfl⟩ := hrel
        go_wp2_with fail
        all_goals
          go_ret
          exact ⟨_, [], .error 1, rfl, Own.nil _ _ _ _, HS2.out, g1.trans HW, by rw [HX.out], (fun x hx => by simp at hx)⟩
    · obtain ⟨k0, rfl⟩ : ∃ k0, k0 = p := ⟨_, rfl⟩
      obtain ⟨N, rfl⟩ : ∃ N : Nat, n = (N : Int) := ⟨n.toNat, by omega⟩
      have HX : Hid (dGet s.xs p0 = dMany (dVer s.xs) N k0 []) := by show _ = _; simp only [dGet, hd]; rw [if_neg hn, Int.toNat_natCast]
      have hn0 : ¬ (N : Int) < 0 := hn
      have hN9 : (N : Int) ≤ 9223372036854775807 := (dInt_ok hd).1.hi
      have HA0 : Hid (GetAt s.xs N k0 0 (pv []) (.ok k0)) := ⟨Nat.zero_le _, rfl, Nat.zero_le _, hk2, rfl⟩
      clear hd hn
      go_wp2_with fail
      go_loopw [6, 7] (fun v i wr => ∃ (V : Value) (j : Nat) (ys : List Ver) (σ : St), v = V ∧ j ≤ 9223372036854775806 ∧ i = .int .i64 j ∧ Hid (GetAt s.xs N k0 j (pv ys) σ) ∧ Hid (Own kVer 59 wr w.heap.size v ys) ∧ Hid (∀ x, x ∈ ys → ∀ k, k ∈ kVer.foot x → w.heap.size ≤ k) ∧ Hid (RSt wr g s σ) ∧ Gr w wr (some g) (some g)) (fun _ i _ => N - (intOf i).toNat)
      case atStart => exact ⟨.slice none 0 0, 0, [], .ok k0, rfl, by decide, rfl, HA0, Own.nil _ _ _ _, (fun x hx => by simp at hx), HS1, g1⟩
      case round =>
        clear HA0 HS1 HRS c0 c1 c2 f1 f2 g1 hp
        obtain ⟨v, j, ys, σ, hvv, hj9, rfl, HA, HO, HF, HS, HG⟩ := hrel
        have hvv' := hvv.symm
        subst hvv'
        obtain ⟨p, x, hrs, hst⟩ := HS.out
        obtain ⟨c0, c1, c2, f1, f2⟩ := hrs.cells
        clear hrs
        cases σ with
        | error e =>
          obtain ⟨hp, rfl, hx⟩ := hst
          obtain ⟨ha1, _, _⟩ := HA.out
          have hx0 : ¬ x = 0 := by omega
          have hx1 : (x == 0) = false := by simpa using hx0
          have HXE : Hid (dGet s.xs p0 = .error x) := HX.out.trans ha1
          clear ha1
          by_cases hjN : j < N
          · have hjN' : (j : Int) < (N : Int) := by omega
            go_wp2_with fail
            go_ret
            exact ⟨_, ys, .error x, rfl, HO.out, HS.out, HG, by rw [HXE.out], HF.out⟩
          · have hjN' : ¬ (j : Int) < (N : Int) := by omega
            go_wp2_with fail
            go_ret
            exact ⟨_, ys, .error x, rfl, HO.out, HS.out, HG, by rw [HXE.out], HF.out⟩
        | ok q =>
          obtain ⟨hp, rfl, rfl⟩ := hst
          obtain ⟨ha1, ha2, ha3, ha4, ha5⟩ := HA.out
          have HA5 := Lib.hid ha5
          have hyl : ys.length = j := by simpa [pv] using ha2
          clear ha5 ha2
          by_cases hjN : j < N
          · have hjN' : (j : Int) < (N : Int) := by omega
            have HYL := Lib.hid hyl
            clear hyl
            go_wp2_with fail
            refine Calls.mono (rVer_any g s (.ok p) _ HS.out (Nat.lt_of_lt_of_le hgl HG.size) (by omega)) ?_
            rintro e2 w2 ⟨⟨⟨id, sch, row, vf, vt, sf, st, by', un⟩, zA, zc⟩, hz, rfl, hzi, hzf, hs2, g2⟩
            simp only [Ver.cells]
            have HZ := Lib.hid hz
            have HZI := Lib.hid hzi
            have HZF := Lib.hid hzf
            have HS2 := Lib.hid hs2
            have HO2 : Hid (Own kVer 59 w2 w.heap.size v ys) := HO.out.grown g2.by' (by
              cases hv : v.ownBlock with
              | none => exact .inl rfl
              | some b => exact .inr (fun e => by have := (HO.out.base_le b hv).1; have := Option.some.inj e; omega)) (fun x hx k hk e => by have := HF.out x hx k hk; have := Option.some.inj e; omega)
            have HG2 := HG.trans g2
            have HRB : Hid (∀ q, v.ownBlock = some q → w.heap.size ≤ q ∧ q < wr.heap.size) := fun q hq => HO.out.base_le q hq
            have HWS := HG.size
            clear hz hzi hzf hs2 c0 c1 c2 f1 f2 g2
            go_wp2_with (at_builtin; refine append_one kVer w.heap.size rfl (.tmp 39) (.tmp 43) 29 59 88 rfl Try.underlying29 info_ver _ _ ys (⟨⟨id, sch, row, vf, vt, sf, st, by', un⟩, zA, zc⟩ : Ver) _ rfl rfl _ rfl rfl (Apd.own HO2.out) HZI.out ?ap ?bs ?ln ?_; (case ap => exact fun k hk he => by have h1 := (HRB.out k he).2; have h2 := HZF.out k hk; omega); (case bs => exact HG2.size); (case ln => have := HYL.out; omega); intro v1 w3 ho hg; have HO3 := Lib.hid ho; have HG3 := HG2.apd hg (fun q hq => (HRB.out q hq).1); have HS3 := Lib.hid (HS2.out.apd hg (fun q hq => (HRB.out q hq).1) hgl HNF.out); clear ho hg)
            go_roundw
            case rel => exact ⟨_, j + 1, ys ++ [(⟨⟨id, sch, row, vf, vt, sf, st, by', un⟩, zA, zc⟩ : Ver)], _, rfl, by omega, by go_num, (by have := HA.out.next hjN HZ.out; show GetAt _ _ _ _ _ _; rw [pv_snoc]; exact this), HO3, (fun x hx k hk => by
              rcases List.mem_append.1 hx with hx | hx
              · exact HF.out x hx k hk
              · simp at hx; subst hx; exact Nat.le_trans HWS (HZF.out k hk)), HS3, HG3⟩
            case measure => simp [intOf]; omega
          · have hjN' : ¬ (j : Int) < (N : Int) := by omega
            have HXE : Hid (dGet s.xs p0 = .ok (pv ys, p)) := by
              show _ = _
              rw [HX.out, HA5.out, show N - j = 0 by omega]; rfl
            go_wp2_with fail
            go_ret
            exact ⟨_, ys, .ok p, rfl, HO.out, HS.out, HG, by rw [HXE.out]; exact ⟨rfl, rfl⟩, HF.out⟩
end Go.Proofs.Ytndlhmnablefpaa
/-! What record's DecodeVersions answers. -/
namespace Go.Proofs.Ytndlhmnablefpaa
open Go.RowKit
set_option linter.unusedSimpArgs false
set_option linter.unusedVariables false
theorem decVers_get (b : List UInt8) : decVers b = if 1048576 < b.length then .error 5 else match dGet b 0 with
    | .error e => .error e
    | .ok (l, p) => if p < b.length then .error 3 else if 4096 < l.length then .error 5 else if chk okVer none l ≠ 0 then .error (chk okVer none l) else .ok l := by
  unfold decVers dGet
  by_cases h : 1048576 < b.length
  · rw [if_pos h, if_pos h]
  rw [if_neg h, if_neg h]
  cases dInt b 0 with
  | error e => rfl
  | ok r =>
    obtain ⟨n, k⟩ := r
    simp only
    by_cases hn : n < 0
    · rw [if_pos hn, if_pos hn]
    · rw [if_neg hn, if_neg hn]
      rfl
theorem dMany_all {α : Type} {d : Nat → Rd α} {P : α → Prop} (hd : ∀ p v k, d p = .ok (v, k) → P v) : ∀ (n p : Nat) (acc l : List α) (k : Nat), (∀ x, x ∈ acc → P x) → dMany d n p acc = .ok (l, k) → ∀ x, x ∈ l → P x
  | 0, p, acc, l, k, ha, h => by
    simp only [dMany, Except.ok.injEq, Prod.mk.injEq] at h
    rw [← h.1]; exact ha
  | n + 1, p, acc, l, k, ha, h => by
    rw [dMany] at h
    split at h
    · simp at h
    rename_i v q hv
    refine dMany_all hd n q _ l k (fun x hx => ?_) h
    rcases List.mem_append.1 hx with hx | hx
    · exact ha x hx
    · simp at hx; subst hx; exact hd p _ _ hv
theorem nt_le : noText.size ≤ 9223372036854775807 := by decide
theorem dVal_fit {b : List UInt8} {p : Nat} {v : Vl} {k : Nat} (h : dVal b p = .ok (v, k)) : v.t.size ≤ 9223372036854775807 := by
  unfold dVal at h
  split at h
  · simp at h
  split at h
  · simp at h
  split at h
  · simp only [Except.ok.injEq, Prod.mk.injEq] at h; rw [← h.1]; exact nt_le
  split at h
  · split at h
    · simp at h
    split at h
    · simp at h
    · simp only [Except.ok.injEq, Prod.mk.injEq] at h; rw [← h.1]; exact nt_le
  split at h
  · split at h
    · simp at h
    rename_i n q hq
    obtain ⟨_, _, h3⟩ := dText_ok hq
    split at h
    · simp only [Except.ok.injEq, Prod.mk.injEq] at h
      rw [← h.1]
      show (ByteArray.mk n.toArray).size ≤ _
      simp [ByteArray.size]
      omega
    · simp at h
  split at h
  · simp only [Except.ok.injEq, Prod.mk.injEq] at h; rw [← h.1]; exact nt_le
  · simp at h
theorem dRow_fit {b : List UInt8} {p : Nat} {r : List Vl} {k : Nat} (h : dRow b p = .ok (r, k)) : Fits r := by
  unfold dRow at h
  split at h
  · simp at h
  split at h
  · simp at h
  split at h
  · simp at h
  exact dMany_all (fun p v k hv => dVal_fit hv) _ _ _ _ _ (fun x hx => by simp at hx) h
theorem dVer_fit {b : List UInt8} {p : Nat} {v : PVer} {k : Nat} (h : dVer b p = .ok (v, k)) : Fits v.row := by
  unfold dVer at h
  split at h
  · simp at h
  split at h
  · simp at h
  split at h
  · simp at h
  rename_i a3 p3 h3
  split at h
  · simp at h
  split at h
  · simp at h
  split at h
  · simp at h
  split at h
  · simp at h
  simp only [Except.ok.injEq, Prod.mk.injEq] at h
  rw [← h.1]
  exact dRow_fit h3
theorem dGet_fit {b : List UInt8} {p : Nat} {l : List PVer} {k : Nat} (h : dGet b p = .ok (l, k)) : ∀ v, v ∈ l → Fits v.row := by
  unfold dGet at h
  split at h
  · simp at h
  split at h
  · simp at h
  exact dMany_all (fun p v k hv => dVer_fit hv) _ _ _ _ _ (fun x hx => by simp at hx) h
theorem dGet_err {b : List UInt8} {p : Nat} {e : Int} (h : dGet b p = .error e) : 0 < e := by
  unfold dGet at h
  split at h
  · rename_i e' he
    simp only [Except.error.injEq] at h
    subst h
    have := dInt_err he
    omega
  split at h
  · simp only [Except.error.injEq] at h; omega
  · exact dMany_err (fun p e he => dVer_err he) _ _ _ _ h
/-- What decoding versions leaves. -/
def DecPost (w : World) (r : Except Int (List PVer)) (en : Ending) (w' : World) : Prop := Below w.heap.size w w' ∧ match r with
  | .error e => en = .returned (.tuple #[.slice none 0 0, .int .i64 e])
  | .ok l => ∃ A c ys, en = .returned (.tuple #[.slice A ys.length c, .int .i64 0]) ∧ kVer.Inv w' ⟨A, c, ys⟩ ∧ pv ys = l ∧ VFits ys ∧ ∀ x, x ∈ ys → ∀ k, k ∈ kVer.foot x → w.heap.size ≤ k
theorem DecPost.err {w w' : World} {r : Except Int (List PVer)} {e : Int} (h : r = .error e) (hb : Below w.heap.size w w') : DecPost w r (.returned (.tuple #[.slice none 0 0, .int .i64 e])) w' := by
  subst h; exact ⟨hb, rfl⟩
set_option maxRecDepth 100000 in
set_option maxHeartbeats 2000000 in
theorem decodeVersions_any (s : Sl UInt8) (w : World) (h : kByte.Inv w s) :
    Calls Try.prog 55 #[.slice s.A s.xs.length s.cap] w (DecPost w (decVers s.xs)) := by
  have HI := Lib.hid h
  have hle := h.le
  have hmx : s.cap ≤ 9223372036854775807 := h.mx
  have HD := Lib.hid (decVers_get s.xs)
  clear h
  go_enter Try.func55, Try.ntmps55
  by_cases hl : 1048576 < s.xs.length
  · have hl' : (1048576 : Int) < (s.xs.length : Int) := by omega
    have HX : Hid (decVers s.xs = .error 5) := by show _ = _; rw [HD.out, if_pos hl]
    go_wp2_with fail
    go_ret2
    exact DecPost.err HX.out (BW.refl w).out
  have hl' : ¬ (1048576 : Int) < (s.xs.length : Int) := by omega
  have HX : Hid (decVers s.xs = match dGet s.xs 0 with
    | .error e => .error e
    | .ok (l, p) => if p < s.xs.length then .error 3 else if 4096 < l.length then .error 5 else if chk okVer none l ≠ 0 then .error (chk okVer none l) else .ok l) := by show _ = _; rw [HD.out, if_neg hl]
  have hl2 : s.xs.length ≤ 1048576 := by omega
  clear HD hl
  have HR : Hid (RSt (w.alloc (.cells #[.slice s.A s.xs.length s.cap, .int .i64 0, .int .i64 0] 127)) w.heap.size s (.ok 0)) :=
    ⟨0, 0, ⟨heap_alloc_new w _, HI.out.below ((BW.refl w).alloc _).out, fun k hk => by have := HI.out.lt k hk; omega⟩, Nat.zero_le _, rfl, rfl⟩
  go_wp2_with fail
  refine Calls.mono (get_vers w.heap.size s 0 _ HR.out hl2) ?_
  rintro e1 w1 ⟨v, ys, σ, rfl, ho, hs, hg, hm, hfo⟩
  have HFO := Lib.hid hfo
  clear hfo
  have HB : BW w w1 := ⟨((BW.refl w).alloc _).out.trans (hg.below (by simp) (fun k hk => by have := Option.some.inj hk; omega))⟩
  have HO := Lib.hid ho
  have HS := Lib.hid hs
  have HM := Lib.hid hm
  obtain ⟨A, c, rfl, hi, _⟩ := ho.sl
  have HIO := Lib.hid hi
  clear ho hs hg hm hi HR
  go_wp2_with fail
  refine Calls.mono (sEnd_any w.heap.size s σ _ HS.out) ?_
  rintro e2 w2 ⟨rfl, b2⟩
  replace HB := BW.next b2
  have HIO2 := Lib.hid (HIO.out.below b2)
  clear b2
  cases hd : dGet s.xs 0 with
  | error e =>
    have he := dGet_err hd
    have HX1 : Hid (decVers s.xs = .error e) := by show _ = _; rw [HX.out, hd]
    have hm := HM.out
    rw [hd] at hm
    simp only at hm
    subst hm
    have he0 : ¬ e = 0 := by omega
    clear hd he
    rw [show endOf s.xs (.error e) = e from rfl]
    go_wp2_with fail
    go_ret2
    exact DecPost.err HX1.out HB.out
  | ok r =>
    obtain ⟨l, p⟩ := r
    have hfit := dGet_fit hd
    have HX1 : Hid (decVers s.xs = if p < s.xs.length then .error 3 else if 4096 < l.length then .error 5 else if chk okVer none l ≠ 0 then .error (chk okVer none l) else .ok l) := by show _ = _; rw [HX.out, hd]
    have hm := HM.out
    rw [hd] at hm
    simp only at hm
    obtain ⟨rfl, rfl⟩ := hm
    have HVF : Hid (VFits ys) := fun v hv => hfit v.p (List.mem_map_of_mem hv)
    have HPL : Hid ((pv ys).length = ys.length) := by show _ = _; simp [pv]
    clear hd hfit HM HX
    by_cases hlt : p < s.xs.length
    · have HX2 : Hid (decVers s.xs = .error 3) := by show _ = _; rw [HX1.out, if_pos hlt]
      rw [show endOf s.xs (.ok p) = 3 by simp [endOf, hlt]]
      go_wp2_with fail
      go_ret2
      exact DecPost.err HX2.out HB.out
    rw [show endOf s.xs (.ok p) = 0 by simp [endOf]; omega]
    by_cases h4 : 4096 < ys.length
    · have h4' : (4096 : Int) < (ys.length : Int) := by omega
      have HX2 : Hid (decVers s.xs = .error 5) := by show _ = _; rw [HX1.out, if_neg hlt, if_pos (by rw [HPL.out]; exact h4)]
      go_wp2_with fail
      go_ret2
      exact DecPost.err HX2.out HB.out
    have h4' : ¬ (4096 : Int) < (ys.length : Int) := by omega
    have HX2 : Hid (decVers s.xs = if chk okVer none (pv ys) ≠ 0 then .error (chk okVer none (pv ys)) else .ok (pv ys)) := by show _ = _; rw [HX1.out, if_neg hlt, if_neg (by rw [HPL.out]; exact h4)]
    clear HX1 hlt h4
    go_wp2_with fail
    refine Calls.mono (checkVersions_any ⟨A, c, ys⟩ _ HIO2.out HVF.out) ?_
    rintro e3 w3 ⟨rfl, b3⟩
    replace HB := BW.next b3
    have HIO3 := Lib.hid (HIO2.out.below b3)
    clear b3
    by_cases hc : chk okVer none (pv ys) = 0
    · have HX3 : Hid (decVers s.xs = .ok (pv ys)) := by show _ = _; rw [HX2.out, if_neg (by simpa using hc)]
      rw [hc]
      go_wp2_with fail
      go_ret2
      exact ⟨HB.out, by rw [HX3.out]; exact ⟨A, c, ys, rfl, HIO3.out, rfl, HVF.out, fun x hx k hk => Nat.le_trans (by simp) (HFO.out x hx k hk)⟩⟩
    · have HX3 : Hid (decVers s.xs = .error (chk okVer none (pv ys))) := by show _ = _; rw [HX2.out, if_pos (by simpa using hc)]
      go_wp2_with fail
      go_ret2
      exact DecPost.err HX3.out HB.out
end Go.Proofs.Ytndlhmnablefpaa
