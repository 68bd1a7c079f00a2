/- Rectangles: of a version, the least around two. -/
import Derived.Test.YtndlhmnablefpaaSegM
import Derived.Test.YtndlhmnablefpaaRec3
import Derived.Test.YtndlhmnablefpaaElem
import Derived.Test.YtndlhmnablefpaaDecP
import Derived.Test.YtndlhmnablefpaaQTail
import Derived.Deep.RegionWith
namespace Go.Proofs.Ytndlhmnablefpaa
open Go.RowKit
set_option linter.unusedSimpArgs false
set_option linter.unusedVariables false
def vRc (r : Rc) : Value := .agg r.cells.toArray
set_option maxRecDepth 100000 in
set_option maxHeartbeats 1000000 in
theorem rect_any (v : Ver) (w : World) : Ans Try.prog 60 #[.agg v.cells.toArray] w (vRc (rc v.p)) := by
  unfold Ans
  simp only [Ver.cells]
  go_enter Try.func60, Try.ntmps60
  have HB := BW.refl w
  go_wp2_with fail
  exact bodyPost_ret (v := vRc (rc v.p)) (by simp [results, Try.results60, go_sem, vRc, rc, Rc.cells]) rfl ⟨rfl, by exact BW.fin⟩
set_option maxRecDepth 100000 in
set_option maxHeartbeats 1000000 in
theorem join_any (a b c d : Int) (w : World) : Ans Try.prog 97 #[vPer (a, b), vPer (c, d)] w (vPer (min a c, max b d)) := by
  unfold Ans
  simp only [vPer]
  go_enter Try.func97, Try.ntmps97
  have HB := BW.refl w
  go_wp2_with fail
  all_goals exact bodyPost_ret (v := vPer (min a c, max b d)) (by simp [results, Try.results97, go_sem, vPer] <;> omega) rfl ⟨rfl, by exact BW.fin⟩
theorem join_lit (a b c d : Int) (w : World) : Ans Try.prog 97 #[.agg #[.int .i64 a, .int .i64 b], .agg #[.int .i64 c, .int .i64 d]] w (.agg #[.int .i64 (min a c), .int .i64 (max b d)]) := join_any a b c d w
/-- A rectangle lies in block b, whole. -/
def BoxR (w : World) (b : Nat) (r : Rc) : Prop := w.heap[b]? = some (.cells r.cells.toArray 51 (0, 0))
theorem boxr4 {w : World} {b : Nat} {r : Rc} (h : BoxR w b r) : w.cell? ⟨b, 0, none⟩ = some (.int .i64 r.vf) ∧ w.cell? ⟨b, 1, none⟩ = some (.int .i64 r.vt) ∧ w.cell? ⟨b, 2, none⟩ = some (.int .i64 r.sf) ∧ w.cell? ⟨b, 3, none⟩ = some (.int .i64 r.st) := by
  refine ⟨?_, ?_, ?_, ?_⟩ <;> (rw [cell_of_row w b _ _ _ _ h]; rfl)
theorem BoxR.lt {w : World} {b : Nat} {r : Rc} (h : BoxR w b r) : b < w.heap.size := (Array.getElem?_eq_some_iff.1 h).1
theorem BoxR.froz {w : World} {b : Nat} {r : Rc} (h : BoxR w b r) (j : Nat) : w.frozen? ⟨b, j, none⟩ = false := by simp [World.frozen?, (show w.heap[b]? = _ from h)]
theorem BoxR.below {w w' : World} {b B : Nat} {r : Rc} (h : BoxR w b r) (hb : Below B w w') (hB : b < B) : BoxR w' b r := (hb.block b hB).trans h
theorem BoxR.set {w : World} {b : Nat} {r : Rc} (h : BoxR w b r) (q : Rc) : BoxR ((((w.setCell ⟨b, 0, none⟩ (.int .i64 q.vf)).setCell ⟨b, 1, none⟩ (.int .i64 q.vt)).setCell ⟨b, 2, none⟩ (.int .i64 q.sf)).setCell ⟨b, 3, none⟩ (.int .i64 q.st)) b q := by
  unfold BoxR at *
  have h1 := heap_setCell_same w b 0 _ _ (.int .i64 q.vf) h
  have h2 := heap_setCell_same _ b 1 _ _ (.int .i64 q.vt) h1
  have h3 := heap_setCell_same _ b 2 _ _ (.int .i64 q.sf) h2
  have h4 := heap_setCell_same _ b 3 _ _ (.int .i64 q.st) h3
  rw [h4]
  rfl
theorem bnd_first (l : List Ver) (h : 0 < l.length) : (pv l).foldl (fun r x => joinR r (rc x)) (rc l[0].p) = bnd (pv l) := by
  cases l with
  | nil => simp at h
  | cons v t => rfl
theorem bnd_cons (v : PVer) (l : List PVer) : bnd (v :: l) = (v :: l).foldl (fun r x => joinR r (rc x)) (rc v) := rfl
/-- Eight cells: a rectangle's, whatever it is; a version's four. -/
theorem held8 {W : World} {g v : Nat} {R : Rc} {x : Ver} (h : BoxR W g R) (hv : BoxV W v x) :
    W.cell? ⟨g, 0, none⟩ = some (.int .i64 R.vf) ∧ W.cell? ⟨g, 1, none⟩ = some (.int .i64 R.vt) ∧ W.cell? ⟨g, 2, none⟩ = some (.int .i64 R.sf) ∧ W.cell? ⟨g, 3, none⟩ = some (.int .i64 R.st) ∧ W.cell? ⟨v, 3, none⟩ = some (.int .i64 x.p.vf) ∧ W.cell? ⟨v, 4, none⟩ = some (.int .i64 x.p.vt) ∧ W.cell? ⟨v, 5, none⟩ = some (.int .i64 x.p.sf) ∧ W.cell? ⟨v, 6, none⟩ = some (.int .i64 x.p.st) := by
  obtain ⟨d0, d1, d2, d3⟩ := boxr4 h
  obtain ⟨e0, e1, e2, e3, e4, e5, e6, e7, e8⟩ := box9 hv
  exact ⟨d0, d1, d2, d3, e3, e4, e5, e6⟩
theorem BoxV.bw {w w' : World} {b : Nat} {x : Ver} (h : BoxV w b x) (hb : BW w w') : BoxV w' b x := (hb.out.block b (Array.getElem?_eq_some_iff.1 h).1).trans h
theorem BoxR.bw {w w' : World} {b : Nat} {x : Rc} (h : BoxR w b x) (hb : BW w w') : BoxR w' b x := (hb.out.block b (Array.getElem?_eq_some_iff.1 h).1).trans h
theorem BoxV.set {w : World} {b g : Nat} {x : Ver} (h : BoxV w b x) (hne : b ≠ g) (q : Rc) : BoxV ((((w.setCell ⟨g, 0, none⟩ (.int .i64 q.vf)).setCell ⟨g, 1, none⟩ (.int .i64 q.vt)).setCell ⟨g, 2, none⟩ (.int .i64 q.sf)).setCell ⟨g, 3, none⟩ (.int .i64 q.st)) b x := by
  unfold BoxV
  rw [heap_setCell_other _ _ _ _ (by exact hne), heap_setCell_other _ _ _ _ (by exact hne), heap_setCell_other _ _ _ _ (by exact hne), heap_setCell_other _ _ _ _ (by exact hne)]
  exact h
theorem BoxR.other {w : World} {b g : Nat} {x : Rc} (h : BoxR w b x) (hne : b ≠ g) (q : Rc) : BoxR ((((w.setCell ⟨g, 0, none⟩ (.int .i64 q.vf)).setCell ⟨g, 1, none⟩ (.int .i64 q.vt)).setCell ⟨g, 2, none⟩ (.int .i64 q.sf)).setCell ⟨g, 3, none⟩ (.int .i64 q.st)) b x := by
  unfold BoxR
  rw [heap_setCell_other _ _ _ _ (by exact hne), heap_setCell_other _ _ _ _ (by exact hne), heap_setCell_other _ _ _ _ (by exact hne), heap_setCell_other _ _ _ _ (by exact hne)]
  exact h
/-- The worlds of the region: a rectangle in block g, a version in block v. -/
def RgC (W0 : World) (g : Nat) (R : Rc) (v : Nat) (x : Ver) (W : World) : Prop := BoxR W g R ∧ BoxV W v x ∧ BW W0 W
theorem RgC.bw {W0 W W' : World} {g v : Nat} {R : Rc} {x : Ver} (h : RgC W0 g R v x W) (hb : BW W W') : RgC W0 g R v x W' := ⟨h.1.bw hb, h.2.1.bw hb, h.2.2.trans hb⟩
set_option maxRecDepth 100000 in
set_option maxHeartbeats 2000000 in
theorem bounds_any (s : Sl Ver) (w : World) (h : kVer.Inv w s) (hne : 0 < s.xs.length) : Ans Try.prog 68 #[.slice s.A s.xs.length s.cap] w (vRc (bnd (pv s.xs))) := by
  unfold Ans
  have HI := Lib.hid h
  have hmx : s.xs.length ≤ 9223372036854775807 := Nat.le_trans h.le h.mx
  clear h
  obtain ⟨b, o, hA, hb, c0, c1, c2, c3, c4, c5, c6, c7, c8, hr⟩ := ver_at HI.out 0 hne
  have HA := Lib.hid hA
  rw [hA]
  clear hA hr
  have HB := BW.refl w
  simp only [Nat.zero_mul, Nat.add_zero] at c0 c1 c2 c3 c4 c5 c6 c7 c8
  go_enter Try.func68, Try.ntmps68
  obtain ⟨r0, HR0⟩ : ∃ r, Hid (r = rc s.xs[0].p) := ⟨_, Lib.hid rfl⟩
  have HZ : Hid (BoxR (w.alloc (.cells #[.int .i64 0, .int .i64 0, .int .i64 0, .int .i64 0] 51)) w.heap.size ⟨0, 0, 0, 0⟩) := heap_alloc_new w _
  go_wp2_with (go_at_call 60; refine Calls.mono (rect_any s.xs[0] _) ?_; rintro e1 w1 ⟨rfl, b1⟩; replace HB := BW.next b1; rw [← HR0.out]; simp only [vRc, Rc.cells])
  have hg1 : w.heap.size < w1.heap.size := by have := b1.size; simp at this; omega
  have HZ1 : Hid (BoxR w1 w.heap.size ⟨0, 0, 0, 0⟩) := HZ.out.below b1 (by simp)
  have HG1 : Hid (BoxR (w1.alloc (.cells #[.int .i64 r0.vf, .int .i64 r0.vt, .int .i64 r0.sf, .int .i64 r0.st] 51)) w1.heap.size r0) := heap_alloc_new w1 _
  have HZ2 : Hid (BoxR (w1.alloc (.cells #[.int .i64 r0.vf, .int .i64 r0.vt, .int .i64 r0.sf, .int .i64 r0.st] 51)) w.heap.size ⟨0, 0, 0, 0⟩) := HZ1.out.below ((BW.refl w1).alloc _).out hg1
  have HBG : Hid (BW w (w1.alloc (.cells #[.int .i64 r0.vf, .int .i64 r0.vt, .int .i64 r0.sf, .int .i64 r0.st] 51))) := HB.alloc _
  obtain ⟨g, hg⟩ : ∃ g, g = w1.heap.size := ⟨_, rfl⟩
  rw [← hg] at hg1 HG1 ⊢
  generalize hW : w1.alloc _ = W at HG1 HBG HZ2 ⊢
  clear HB hg hW HZ HZ1 b1 c0 c1 c2 c3 c4 c5 c6 c7 c8 hb w1
  go_wp2_with fail
  go_loopw [12] (fun i wr => ∃ k : Nat, k ≤ s.xs.length ∧ i = .int .i64 k ∧ Hid (BoxR wr g (((pv s.xs).take k).foldl (fun r x => joinR r (rc x)) r0)) ∧ Hid (BoxR wr w.heap.size ⟨0, 0, 0, 0⟩) ∧ BW w wr) (fun i _ => s.xs.length - (intOf i).toNat)
  case atStart => exact ⟨0, Nat.zero_le _, rfl, HG1.out, HZ2.out, HBG.out⟩
  case round =>
    obtain ⟨k, hk, rfl, HG, HZ, HB⟩ := hrel
    clear HG1 HZ2 HBG
    by_cases hlt : k < s.xs.length
    · obtain ⟨b', o', hA', hb, c0, c1, c2, c3, c4, c5, c6, c7, c8, hr⟩ := ver_at (HI.out.below HB.out) k hlt
      have hA2 := hA'.symm.trans HA.out
      simp only [Option.some.injEq, Addr.mk.injEq, and_true] at hA2
      obtain ⟨rfl, rfl⟩ := hA2
      clear hr hA'
      have hgl := HG.out.lt
      have hzl := HZ.out.lt
      obtain ⟨R, HR⟩ : ∃ R, Hid (R = (((pv s.xs).take k).foldl (fun r x => joinR r (rc x)) r0)) := ⟨_, Lib.hid rfl⟩
      rw [← HR.out] at HG
      have HV : Hid (BoxV (wr.alloc (.cells s.xs[k].cells.toArray 59)) wr.heap.size s.xs[k]) := heap_alloc_new wr _
      have HW : Hid (BW wr (wr.alloc (.cells s.xs[k].cells.toArray 59))) := (BW.refl wr).alloc _
      go_wp2_with fail
      generalize hW : wr.alloc _ = W0
      replace HV : Hid (BoxV W0 wr.heap.size s.xs[k]) := by subst hW; exact HV
      replace HW : Hid (BW wr W0) := by subst hW; exact HW
      clear hW c0 c1 c2 c3 c4 c5 c6 c7 c8
      have HG0 := Lib.hid (HG.out.below HW.out.out hgl)
      have HZ0 := Lib.hid (HZ.out.below HW.out.out hzl)
      replace HB := HB.trans HW.out
      have hgl0 : g < W0.heap.size := HG0.out.lt
      have hne : wr.heap.size ≠ g := by omega
      obtain ⟨d0, d1, d2, d3, e3, e4, e5, e6⟩ := held8 HG0.out HV.out
      refine wp_region_quiet_tail (RgC W0 g R wr.heap.size s.xs[k]) 11 (by kernel_rfl) (by kernel_rfl) (RgC.bw ⟨HG0.out, HV.out, BW.refl W0⟩ ((BW.refl W0).drew)) ?_
      simp only [List.take_succ_cons, List.take_zero, List.drop_succ_cons, List.drop_zero]
      clear d0 d1 d2 d3 e3 e4 e5 e6
      refine wpQuiet_step (fun K hK => ?_)
      go_simp
      refine ⟨_, fun _ _ => rfl, hK _ ?_⟩
      clear hK K
      refine quiet_put rfl (.agg #[.int .i64 R.vf, .int .i64 R.vt]) (fun W hW => ?_) ?_
      · obtain ⟨d0, d1, d2, d3, e3, e4, e5, e6⟩ := held8 hW.1 hW.2.1
        go_simp
      simp only [Act.put, List.setIfInBounds_toArray, List.set_cons_zero, List.set_cons_succ]
      refine wpQuiet_step (fun K hK => ?_)
      go_simp
      refine ⟨_, fun _ _ => rfl, hK _ ?_⟩
      clear hK K
      refine quiet_put rfl (.agg #[.int .i64 s.xs[k].p.vf, .int .i64 s.xs[k].p.vt]) (fun W hW => ?_) ?_
      · obtain ⟨d0, d1, d2, d3, e3, e4, e5, e6⟩ := held8 hW.1 hW.2.1
        go_simp
      simp only [Act.put, List.setIfInBounds_toArray, List.set_cons_zero, List.set_cons_succ]
      refine quiet_put rfl (.agg #[.int .i64 (min R.vf s.xs[k].p.vf), .int .i64 (max R.vt s.xs[k].p.vt)]) (fun W hW => ?_) ?_
      · go_simp
        refine Calls.mono (join_lit R.vf R.vt s.xs[k].p.vf s.xs[k].p.vt W) ?_
        rintro e1 w1 ⟨rfl, b1⟩
        exact ⟨rfl, hW.bw ⟨b1⟩⟩
      simp only [Act.put, List.setIfInBounds_toArray, List.set_cons_zero, List.set_cons_succ]
      refine wpQuiet_step (fun K hK => ?_)
      go_simp
      refine ⟨_, fun _ _ => rfl, hK _ ?_⟩
      clear hK K
      refine quiet_put rfl (.agg #[.int .i64 R.sf, .int .i64 R.st]) (fun W hW => ?_) ?_
      · obtain ⟨d0, d1, d2, d3, e3, e4, e5, e6⟩ := held8 hW.1 hW.2.1
        go_simp
      simp only [Act.put, List.setIfInBounds_toArray, List.set_cons_zero, List.set_cons_succ]
      refine wpQuiet_step (fun K hK => ?_)
      go_simp
      refine ⟨_, fun _ _ => rfl, hK _ ?_⟩
      clear hK K
      refine quiet_put rfl (.agg #[.int .i64 s.xs[k].p.sf, .int .i64 s.xs[k].p.st]) (fun W hW => ?_) ?_
      · obtain ⟨d0, d1, d2, d3, e3, e4, e5, e6⟩ := held8 hW.1 hW.2.1
        go_simp
      simp only [Act.put, List.setIfInBounds_toArray, List.set_cons_zero, List.set_cons_succ]
      refine quiet_put rfl (.agg #[.int .i64 (min R.sf s.xs[k].p.sf), .int .i64 (max R.st s.xs[k].p.st)]) (fun W hW => ?_) ?_
      · go_simp
        refine Calls.mono (join_lit R.sf R.st s.xs[k].p.sf s.xs[k].p.st W) ?_
        rintro e1 w1 ⟨rfl, b1⟩
        exact ⟨rfl, hW.bw ⟨b1⟩⟩
      simp only [Act.put, List.setIfInBounds_toArray, List.set_cons_zero, List.set_cons_succ]
      refine wpQuiet_step (fun K hK => ?_)
      go_simp
      refine ⟨_, fun _ _ => rfl, hK _ ?_⟩
      clear hK K
      refine wpQuiet_nil ?_
      rintro W2 ⟨hG2, hV2, hB2⟩
      obtain ⟨y0, y1, y2, y3⟩ := boxr4 hG2
      have hf2 := hG2.froz
      go_wp2_with fail
      go_roundw
      case rel =>
        have hgw : w.heap.size ≤ g := Nat.le_of_lt hg1
        refine ⟨k + 1, by omega, by go_num, ?_, (HZ0.out.bw hB2).other (Nat.ne_of_lt hg1) (joinR R (rc s.xs[k].p)), ((((HB.trans hB2).setCell hgw _).setCell hgw _).setCell hgw _).setCell hgw _⟩
        have hf : ((pv s.xs).take (k + 1)).foldl (fun r x => joinR r (rc x)) r0 = joinR R (rc s.xs[k].p) := by
          have hkp : k < (pv s.xs).length := by simpa [pv] using hlt
          rw [List.take_succ_eq_append_getElem hkp, List.foldl_append, ← HR.out]
          simp [pv]
        rw [hf]
        exact hG2.set (joinR R (rc s.xs[k].p))
      case measure => simp [intOf]; omega
    · have hend : ((pv s.xs).take k).foldl (fun r x => joinR r (rc x)) r0 = bnd (pv s.xs) := by
        rw [List.take_of_length_le (by simp [pv]; omega), HR0.out]
        exact bnd_first _ hne
      rw [hend] at HG
      obtain ⟨q, HQ⟩ : ∃ q, Hid (q = bnd (pv s.xs)) := ⟨_, Lib.hid rfl⟩
      rw [← HQ.out] at HG
      clear hend
      obtain ⟨d0, d1, d2, d3⟩ := boxr4 HG.out
      obtain ⟨e0, e1, e2, e3⟩ := boxr4 HZ.out
      have hf := HZ.out.froz
      go_wp2
      exact bodyPost_ret (v := vRc q) (by simp [results, Try.results68, go_sem, vRc, Rc.cells, e0, e1, e2, e3, hf]) rfl ⟨by rw [HQ.out], (((((BW.setCell HB (Nat.le_refl _) _).setCell (Nat.le_refl _) _).setCell (Nat.le_refl _) _).setCell (Nat.le_refl _) _)).out⟩
end Go.Proofs.Ytndlhmnablefpaa
