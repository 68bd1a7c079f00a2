/- What a segment's Search answers. -/
import Derived.Test.YtndlhmnablefpaaSeg
import Derived.Test.YtndlhmnablefpaaQTail
import Derived.Test.YtndlhmnablefpaaHead
namespace Go.Proofs.Ytndlhmnablefpaa
open Go.RowKit
set_option linter.unusedSimpArgs false
set_option linter.unusedVariables false
theorem filter_next {α : Type} (f : α → Bool) {l : List α} {k : Nat} (hk : k < l.length) : (l.take (k + 1)).filter f = (l.take k).filter f ++ if f l[k] = true then [l[k]] else [] := by
  rw [List.take_succ_eq_append_getElem hk, List.filter_append, List.filter_cons, List.filter_nil]
set_option maxRecDepth 100000 in
set_option maxHeartbeats 2000000 in
theorem search_any (g : Nat) (t : ByteArray) (s : Sl (Sl Ver)) (R : Rc) (w : World) (h : SegAt w g t s) (hl : (s.xs.flatMap (·.xs)).length ≤ 1000000) (hl2 : s.xs.length ≤ 1000000) (hr : ∀ x, x ∈ s.xs → ∀ v, v ∈ x.xs → v.p.row.length * 32 ≤ 140737488355328) :
    Calls Try.prog 27 #[.pointer (some ⟨g, 0, none⟩), .agg #[.int .i64 R.vf, .int .i64 R.vt, .int .i64 R.sf, .int .i64 R.st]] w (SearchPost w (segSearch (bl s.xs) R)) := by
  have HS := Lib.hid h
  have HR := Lib.hid hr
  clear h hr
  have HB := BW.refl w
  have HX0 : Hid (BoxR (w.alloc (.cells #[.int .i64 R.vf, .int .i64 R.vt, .int .i64 R.sf, .int .i64 R.st] 51)) w.heap.size R) := heap_alloc_new w _
  have HSA : Hid (SegAt (w.alloc (.cells #[.int .i64 R.vf, .int .i64 R.vt, .int .i64 R.sf, .int .i64 R.st] 51)) g t s) := HS.out.bw ((BW.refl w).alloc _)
  go_enter Try.func27, Try.ntmps27
  go_wp2_with fail
  generalize hW : w.alloc _ = W0 at HX0 HSA ⊢
  replace HB : BW w W0 := by subst hW; exact (BW.refl w).alloc _
  clear hW
  refine Calls.mono (perValid_any R.vf R.vt W0) ?_
  rintro e1 w1 ⟨rfl, b1⟩
  cases h1 : okPer R.vf R.vt with
  | false =>
    have HN : Hid (segSearch (bl s.xs) R = ([], 0)) := by show _ = _; unfold segSearch; rw [if_neg (by unfold okRc; rw [h1]; simp)]
    clear h1
    go_wp2_with fail
    go_ret2
    exact SearchPost.none HN.out (HB.trans ⟨b1⟩).out
  | true =>
  have H1 := Lib.hid h1
  replace HX0 := Lib.hid (HX0.out.bw ⟨b1⟩)
  replace HSA := Lib.hid (HSA.out.bw ⟨b1⟩)
  replace HB := HB.trans ⟨b1⟩
  clear h1 b1
  obtain ⟨d0, d1, d2, d3⟩ := boxr4 HX0.out
  go_wp2_with fail
  refine Calls.mono (perValid_any R.sf R.st w1) ?_
  rintro e2 w2 ⟨rfl, b2⟩
  cases h2 : okPer R.sf R.st with
  | false =>
    have HN : Hid (segSearch (bl s.xs) R = ([], 0)) := by show _ = _; unfold segSearch; rw [if_neg (by unfold okRc; rw [h2]; simp)]
    clear h2
    go_wp2_with fail
    go_ret2
    exact SearchPost.none HN.out (HB.trans ⟨b2⟩).out
  | true =>
  have HN : Hid (segSearch (bl s.xs) R = (((bl s.xs).filter fun x => over (bnd x) R).flatMap (found R), ((bl s.xs).filter fun x => over (bnd x) R).length)) := by
    show _ = _; unfold segSearch; rw [if_pos (by unfold okRc; rw [h2, H1.out]; rfl)]
  replace HX0 := Lib.hid (HX0.out.bw ⟨b2⟩)
  replace HSA := Lib.hid (HSA.out.bw ⟨b2⟩)
  replace HB := HB.trans ⟨b2⟩
  clear h2 b2 d0 d1 d2 d3
  obtain ⟨c0, c1⟩ := HSA.out.cells
  have hsl := HX0.out.lt
  go_wp2_with fail
  go_loopw [6, 7, 9, 11, 31, 45] (fun v c _ _ i _ wr => ∃ (k m : Nat) (zs : List Ver), k ≤ s.xs.length ∧ i = .int .i64 (k : Int) ∧ c = .int .i64 (m : Int) ∧ m ≤ k ∧ Hid (m = (((bl s.xs).take k).filter fun x => over (bnd x) R).length) ∧ Hid (Own kVer 59 wr w2.heap.size v zs) ∧ Hid (pv zs = (((bl s.xs).take k).filter fun x => over (bnd x) R).flatMap (found R)) ∧ zs.length ≤ ((s.xs.take k).flatMap (·.xs)).length ∧ BW w2 wr) (fun _ _ _ _ i _ _ => s.xs.length - (intOf i).toNat)
  case atStart => exact ⟨0, 0, [], Nat.zero_le _, rfl, rfl, Nat.le_refl _, rfl, Own.nil _ _ _ _, rfl, Nat.zero_le _, BW.refl w2⟩
  case round =>
    clear c0 c1
    obtain ⟨k, m, zs, hk, rfl, rfl, hmk, HM, HO, HZ, hzl, HB2⟩ := hrel
    by_cases hlt : k < s.xs.length
    · obtain ⟨b, o, hA, hb, c0, c1, c2, c3, c4, hr⟩ := blc_at (HSA.out.inv.below HB2.out) k hlt
      have HA := Lib.hid hA
      rw [hA]
      clear hA hr
      have hfl := flat_le hlt
      have HT := Lib.hid (take_flat (·.xs) s.xs k hlt)
      have hbk : k < (bl s.xs).length := by rw [bl_len]; exact hlt
      have HFN := Lib.hid (filter_next (fun x => over (bnd x) R) hbk)
      have HBX : Hid ((bl s.xs)[k] = pv s.xs[k].xs) := by show _ = _; simp [bl]
      obtain ⟨x, hx⟩ : ∃ x, x = s.xs[k] := ⟨_, rfl⟩
      have HRX : Hid (∀ v, v ∈ x.xs → v.p.row.length * 32 ≤ 140737488355328) := by show _; rw [hx]; exact HR.out _ (List.getElem_mem hlt)
      have HXI : Hid (kVer.Inv w2 x) := by rw [hx]; exact HSA.out.inv.inv _ (List.getElem_mem hlt)
      rw [← hx] at c0 c1 c2 c3 c4 HT hfl HBX
      clear hx
      have hxm : x.xs.length ≤ 9223372036854775807 := Nat.le_trans HXI.out.le HXI.out.mx
      obtain ⟨q, hq⟩ : ∃ q, q = bnd (pv x.xs) := ⟨_, rfl⟩
      rw [← hq] at c0 c1 c2 c3
      have HQ := Lib.hid hq
      clear hq
      have HBB : Hid (BoxB (wr.alloc (.cells #[.int .i64 q.vf, .int .i64 q.vt, .int .i64 q.sf, .int .i64 q.st, .slice x.A x.xs.length x.cap] 78)) wr.heap.size x) := by
        rw [HQ.out]; exact heap_alloc_new wr _
      have HW : Hid (BW wr (wr.alloc (.cells #[.int .i64 q.vf, .int .i64 q.vt, .int .i64 q.sf, .int .i64 q.st, .slice x.A x.xs.length x.cap] 78))) := (BW.refl wr).alloc _
      obtain ⟨d0, d1, d2, d3⟩ := boxr4 (HX0.out.bw (HB2.trans HW.out))
      have hsl2 : w.heap.size < wr.heap.size := Nat.lt_of_lt_of_le hsl HB2.out.size
      obtain ⟨f0, f1, f2, f3⟩ := boxr4 (HX0.out.bw HB2)
      go_wp2_with fail
      generalize hW : wr.alloc _ = V0 at HBB HW d0 d1 d2 d3 ⊢
      clear hW c0 c1 c2 c3 c4 f0 f1 f2 f3
      refine Calls.mono (rOver_any q R V0) ?_
      rintro e3 w3 ⟨rfl, b3⟩
      have HB3 : BW w2 w3 := (HB2.trans HW.out).trans ⟨b3⟩
      have HO3 := Lib.hid (HO.out.below (HW.out.trans ⟨b3⟩).out)
      have HBB3 := Lib.hid (HBB.out.bw ⟨b3⟩)
      cases ho : over q R with
      | false =>
        have HN2 : Hid (((bl s.xs).take (k + 1)).filter (fun x => over (bnd x) R) = ((bl s.xs).take k).filter fun x => over (bnd x) R) := by
          show _ = _; rw [HFN.out, HBX.out, ← HQ.out, ho]; simp
        clear ho b3 d0 d1 d2 d3
        go_wp2_with fail
        go_roundw
        case rel => exact ⟨k + 1, m, zs, by omega, by go_num, rfl, by omega, by show _ = _; rw [HN2.out]; exact HM.out, HO3, by show _ = _; rw [HN2.out]; exact HZ.out, by rw [HT.out, List.length_append]; omega, HB3⟩
        case measure => simp [intOf]; omega
      | true =>
        have HN2 : Hid (((bl s.xs).take (k + 1)).filter (fun x => over (bnd x) R) = (((bl s.xs).take k).filter fun x => over (bnd x) R) ++ [pv x.xs]) := by
          show _ = _; rw [HFN.out, HBX.out, ← HQ.out, ho]; simp
        clear ho b3 d0 d1 d2 d3
        obtain ⟨g0, g1, g2, g3, g4⟩ := boxb5 HBB3.out q HQ.out
        have hm1 : IntKind.i64.wrap ((m : Int) + 1) = ((m + 1 : Nat) : Int) := by rw [IntWalk.i64_in _ (by omega)]; omega
        obtain ⟨N, hN⟩ : ∃ N, N = ((s.xs.take k).flatMap (·.xs)).length := ⟨_, rfl⟩
        rw [← hN] at hzl hfl
        have HNN := Lib.hid hN
        clear hN HO HB2 hsl2
        go_wp2_with fail
        clear g0 g1 g2 g3 g4 hb
        go_loopw [6, 11, 45] (fun v _ j wq => ∃ (n : Nat) (ys : List Ver), n ≤ x.xs.length ∧ j = .int .i64 (n : Int) ∧ Hid (Own kVer 59 wq w2.heap.size v ys) ∧ Hid (pv ys = pv zs ++ found R ((pv x.xs).take n)) ∧ ys.length ≤ N + n ∧ BW w2 wq) (fun _ _ j _ => x.xs.length - (intOf j).toNat)
        case atStart => exact ⟨0, zs, Nat.zero_le _, rfl, HO3, by show _ = _; simp [found], by omega, HB3⟩
        case round =>
          clear HO3 HB3
          obtain ⟨n, ys, hn, rfl, HO, HY, hyl, HB2⟩ := hrel
          by_cases hltn : n < x.xs.length
          · have HXJ := Lib.hid (HXI.out.below HB2.out)
            obtain ⟨b1, o1, hA1, hb1, c0, c1, c2, c3, c4, c5, c6, c7, c8, hr⟩ := ver_at HXJ.out n hltn
            have HA1 := Lib.hid hA1
            have HRW := Lib.hid (HXJ.out.inv _ (List.getElem_mem hltn))
            have HLR := Lib.hid (HRX.out _ (List.getElem_mem hltn))
            rw [hA1]
            clear hA1 hr
            have hnp : n < (pv x.xs).length := by rw [pv_len']; exact hltn
            have HFV : Hid (found R ((pv x.xs).take (n + 1)) = found R ((pv x.xs).take n) ++ if over (rc x.xs[n].p) R = true then [x.xs[n].p] else []) := by
              show _ = _
              have h1 := filter_next (fun v => over (rc v) R) hnp
              have h2 : (pv x.xs)[n] = x.xs[n].p := by simp [pv]
              rw [h2] at h1
              exact h1
            have HVB : Hid (BoxV (wr.alloc (.cells x.xs[n].cells.toArray 59)) wr.heap.size x.xs[n]) := heap_alloc_new wr _
            have HVW : Hid (BW wr (wr.alloc (.cells x.xs[n].cells.toArray 59))) := (BW.refl wr).alloc _
            obtain ⟨v, hv⟩ : ∃ v, v = x.xs[n] := ⟨_, rfl⟩
            rw [← hv] at c0 c1 c2 c3 c4 c5 c6 c7 c8 HRW HLR HVB HVW HFV
            clear hv hnp
            go_wp2_with fail
            generalize hW : wr.alloc _ = U0
            replace HVB : Hid (BoxV U0 wr.heap.size v) := by subst hW; exact HVB
            replace HVW : Hid (BW wr U0) := by subst hW; exact HVW
            clear hW c0 c1 c2 c3 c4 c5 c6 c7 c8
            have HR4 := Lib.hid (HX0.out.bw (HB2.trans HVW.out))
            refine wp_region_quiet_in (SrC U0 w.heap.size R wr.heap.size v) (by kernel_rfl) (by kernel_rfl) (SrC.bw ⟨HR4.out, HVB.out, BW.refl U0⟩ ((BW.refl U0).drew)) ?_
            refine quiet_put rfl (.agg #[.int .i64 v.p.id, .int .i64 v.p.sch, .slice v.A v.p.row.length v.c, .int .i64 v.p.vf, .int .i64 v.p.vt, .int .i64 v.p.sf, .int .i64 v.p.st, .int .i64 v.p.by', .int .i64 v.p.un]) (fun W hW => ?_) ?_
            · obtain ⟨e0, e1, e2, e3, e4, e5, e6, e7, e8⟩ := box9 hW.2.1
              go_simp
            simp only [Act.put, List.setIfInBounds_toArray, List.set_cons_zero, List.set_cons_succ]
            refine quiet_put rfl (.agg #[.int .i64 v.p.vf, .int .i64 v.p.vt, .int .i64 v.p.sf, .int .i64 v.p.st]) (fun W hW => ?_) ?_
            · go_simp
              refine Calls.mono (rect_lit v W) ?_
              rintro e1 w1 ⟨rfl, b1⟩
              exact ⟨rfl, hW.bw ⟨b1⟩⟩
            simp only [Act.put, List.setIfInBounds_toArray, List.set_cons_zero, List.set_cons_succ]
            refine quiet_put rfl (.agg #[.int .i64 R.vf, .int .i64 R.vt, .int .i64 R.sf, .int .i64 R.st]) (fun W hW => ?_) ?_
            · obtain ⟨e0, e1, e2, e3⟩ := boxr4 hW.1
              go_simp
            simp only [Act.put, List.setIfInBounds_toArray, List.set_cons_zero, List.set_cons_succ]
            refine quiet_put rfl (.bool (over (rc v.p) R)) (fun W hW => ?_) ?_
            · go_simp
              refine Calls.mono (over_rc v R W) ?_
              rintro e1 w1 ⟨rfl, b1⟩
              exact ⟨rfl, hW.bw ⟨b1⟩⟩
            simp only [Act.put, List.setIfInBounds_toArray, List.set_cons_zero, List.set_cons_succ]
            refine wpQuiet_nil ?_
            rintro W2 ⟨hR2, hV2, hB2⟩
            have HV2 := Lib.hid hV2
            have HBU : BW wr W2 := HVW.out.trans hB2
            clear hR2 hV2 hB2 HR4 HVB HVW
            have HO5 := Lib.hid (HO.out.below HBU.out)
            have HB5 := HB2.trans HBU
            have HROW := Lib.hid (fun y hy => (HO.out.base_le y hy).2)
            cases ho : over (rc v.p) R with
            | false =>
              rw [if_neg (by rw [ho]; simp), List.append_nil] at HFV
              clear ho
              go_wp2_with fail
              go_roundw
              case rel => exact ⟨n + 1, ys, by omega, by go_num, HO5, by show _ = _; rw [HFV.out]; exact HY.out, by omega, HB5⟩
              case measure => simp [intOf]; omega
            | true =>
              rw [if_pos ho] at HFV
              clear ho
              obtain ⟨e0, e1, e2, e3, e4, e5, e6, e7, e8⟩ := box9 HV2.out
              go_wp2_with (first
                | (go_at_call 57; refine Calls.mono (clone_any v _ (kVer.below HRW.out HBU.out) HLR.out) ?_; rintro e2 w6 ⟨z, rfl, hz1, hz2, hz3, b6⟩; simp only [Ver.cells]; have HB6 := HB5.trans ⟨b6⟩; have HO6 := Lib.hid (HO5.out.below b6); have HZ1 := Lib.hid hz1; have HZ2 := Lib.hid hz2; have HZ3 := Lib.hid hz3; clear hz1 hz2 hz3 b6)
                | (at_builtin; refine append_one kVer w2.heap.size rfl (.tmp 53) (.tmp 56) 29 59 88 rfl Try.underlying29 info_ver _ _ ys z _ rfl rfl _ rfl rfl (Apd.own HO6.out) HZ2.out ?ap HB6.out.size (by omega) ?_; (case ap => exact fun y hy he => by have h1 := HROW.out y he; have h2 := HZ3.out y hy; have h3 := HBU.out.size; omega); intro v3 w7 ho hg; have HO7 := Lib.hid ho; have HB7 : BW w2 w7 := ⟨HB6.out.trans (hg.below HB6.out.size (fun y hy => (HO6.out.base_le y hy).1))⟩; clear ho hg))
              go_roundw
              case rel =>
                refine ⟨n + 1, ys ++ [z], by omega, by go_num, HO7, ?_, by simp; omega, HB7⟩
                show _ = _
                rw [HFV.out, ← List.append_assoc, ← HY.out]
                simp [pv, HZ1.out]
              case measure => simp [intOf]; omega
          · go_wp2_with fail
            go_roundw
            case rel =>
              refine ⟨k + 1, m + 1, ys, by omega, by go_num, by go_num, by omega, ?_, HO, ?_, ?_, HB2⟩
              · show _ = _
                rw [HN2.out, List.length_append, ← HM.out]; rfl
              · have := HY.out
                rw [List.take_of_length_le (l := pv x.xs) (by rw [pv_len']; omega), HZ.out] at this
                show _ = _
                rw [this, HN2.out, List.flatMap_append]
                simp
              · rw [HT.out, List.length_append, ← HNN.out]; omega
            case measure => simp [intOf]; omega
    · have HE : Hid ((bl s.xs).take k = bl s.xs) := List.take_of_length_le (by rw [bl_len]; omega)
      rw [HE.out] at HZ HM
      obtain ⟨A9, c9, hv9, hi9, _⟩ := HO.out.sl
      have HI9 := Lib.hid hi9
      subst hv9
      clear hi9
      go_wp2_with fail
      go_ret2
      exact ⟨A9, c9, zs, by rw [HN.out]; simp only; rw [← HM.out]; rfl, HI9.out, by rw [HN.out]; exact HZ.out, (HB.trans HB2).out⟩
end Go.Proofs.Ytndlhmnablefpaa
