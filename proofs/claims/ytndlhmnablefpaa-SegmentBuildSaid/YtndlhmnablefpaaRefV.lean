/- ref35 Name; ref37: rectangles around versions, the first error. -/
import Derived.Test.YtndlhmnablefpaaRefE
import Derived.Test.YtndlhmnablefpaaSegF
import Derived.Test.YtndlhmnablefpaaQTail
namespace Go.Proofs.Ytndlhmnablefpaa
open Go.RowKit
set_option linter.unusedSimpArgs false
set_option linter.unusedVariables false
/-- A name's character at its place. -/
def okAt (j : Nat) (c : UInt8) : Bool := nameChar c || (decide (0 < j) && digit c)
theorem okName_bad {l : List UInt8} {j : Nat} (hj : j < l.length) (h : okAt j l[j] = false) : okName l = false := by
  cases l with
  | nil => rfl
  | cons c t =>
    unfold okName
    simp only [Bool.and_eq_false_iff]
    right
    cases j with
    | zero =>
      left
      simpa [okAt] using h
    | succ j =>
      right
      have hj' : j < t.length := by simpa using hj
      have h2 : okAt (j + 1) t[j] = false := h
      refine all_no t _ j hj' ?_
      simpa [okAt] using h2
theorem okName_good {l : List UInt8} (h : ∀ j, (hj : j < l.length) → okAt j l[j] = true) : okName l = (decide (1 ≤ l.length) && decide (l.length ≤ 24)) := by
  cases l with
  | nil => rfl
  | cons c t =>
    unfold okName
    have h0 : nameChar c = true := by
      have := h 0 (by simp)
      simpa [okAt] using this
    have h1 : (t.all fun c => nameChar c || digit c) = true := by
      rw [List.all_eq_true]
      intro x hx
      obtain ⟨i, hi, rfl⟩ := List.getElem_of_mem hx
      have := h (i + 1) (by simpa using hi)
      simpa [okAt] using this
    simp only [h0, h1, Bool.and_true]
    simp
set_option maxRecDepth 100000 in
set_option maxHeartbeats 1000000 in
theorem rName_any (s : ByteArray) (w : World) (hs : s.size ≤ 9223372036854775807) : Ans Try.prog 45 #[.string s] w (.bool (okName s.data.toList)) := by
  unfold Ans
  have hsz : s.data.toList.length = s.size := by simp
  have HSZ := Lib.hid hsz
  clear hsz
  go_enter Try.func45, Try.ntmps45
  go_wp2_with fail
  go_loop [3, 4] (fun i _ => ∃ k : Nat, k ≤ s.size ∧ i = .int .i64 k ∧ Hid (∀ j, (hj : j < s.data.toList.length) → j < k → okAt j s.data.toList[j] = true)) (fun i _ => s.size - (intOf i).toNat)
  case atStart => exact ⟨0, Nat.zero_le _, rfl, fun j _ h => by omega⟩
  case round =>
    obtain ⟨k, hk, rfl, HP⟩ := hrel
    by_cases hlt : k < s.size
    · have hd : k < s.data.toList.length := by rw [HSZ.out]; exact hlt
      have HD := Lib.hid hd
      have HY : Hid (okAt k (s.data.toList[k]'hd) = (((decide ((97 : Int) ≤ ((s[k]'hlt).toNat : Int)) && decide (((s[k]'hlt).toNat : Int) ≤ 122)) || (((s[k]'hlt).toNat : Int) == 95)) || ((decide ((0 : Int) < (k : Int)) && decide ((48 : Int) ≤ ((s[k]'hlt).toNat : Int))) && decide (((s[k]'hlt).toNat : Int) ≤ 57)))) := by
        show _ = _
        have he : s.data.toList[k]'hd = s[k]'hlt := rfl
        rw [he, Bool.eq_iff_iff]
        simp only [okAt, nameChar, digit, Bool.or_eq_true, Bool.and_eq_true, decide_eq_true_eq, beq_iff_eq]
        omega
      go_wp2
      all_goals first
        | (go_ret; exact ⟨ret_bool (okName_bad HD.out (HY.out.trans (by simp at *; omega))).symm, below_refl w⟩)
        | (go_round; (case rel => exact ⟨k + 1, by omega, by go_num, fun j hj hjk => by
            rcases Nat.lt_or_ge j k with h | h
            · exact HP.out j hj h
            · obtain rfl : j = k := by omega
              exact HY.out.trans (by simp at *; omega)⟩); (case measure => simp [intOf]; omega))
    · have HE : Hid (okName s.data.toList = (decide (1 ≤ s.size) && decide (s.size ≤ 24))) := by
        show _ = _
        rw [okName_good (fun j hj => HP.out j hj (by have := HSZ.out; omega)), HSZ.out]
      by_cases h1 : 1 ≤ s.size
      · by_cases h2 : s.size ≤ 24
        · have HF : Hid (okName s.data.toList = true) := by show _ = _; rw [HE.out, decide_eq_true h1, decide_eq_true h2]; rfl
          have h1' : (1 : Int) ≤ (s.size : Int) := by omega
          have h2' : (s.size : Int) ≤ 24 := by omega
          go_wp2
          go_ret
          exact ⟨ret_bool HF.out.symm, below_refl w⟩
        · have HF : Hid (okName s.data.toList = false) := by show _ = _; rw [HE.out, decide_eq_false h2, Bool.and_false]
          have h1' : (1 : Int) ≤ (s.size : Int) := by omega
          have h2' : ¬ (s.size : Int) ≤ 24 := by omega
          go_wp2
          go_ret
          exact ⟨ret_bool HF.out.symm, below_refl w⟩
      · have HF : Hid (okName s.data.toList = false) := by show _ = _; rw [HE.out, decide_eq_false h1, Bool.false_and]
        have h1' : ¬ (1 : Int) ≤ (s.size : Int) := by omega
        go_wp2
        go_ret
        exact ⟨ret_bool HF.out.symm, below_refl w⟩
theorem rect37_any (v : Ver) (w : World) : Ans Try.prog 78 #[.agg v.cells.toArray] w (vRc (rc v.p)) := by
  unfold Ans
  simp only [Ver.cells]
  go_enter Try.func78, Try.ntmps78
  have HB := BW.refl w
  go_wp2_with fail
  exact bodyPost_ret (v := vRc (rc v.p)) (by simp [results, Try.results78, go_sem, vRc, rc, Rc.cells]) rfl ⟨rfl, by exact BW.fin⟩
theorem rect37_lit (v : Ver) (w : World) : Ans Try.prog 78 #[.agg v.cells.toArray] w (.agg #[.int .i64 v.p.vf, .int .i64 v.p.vt, .int .i64 v.p.sf, .int .i64 v.p.st]) := rect37_any v w
set_option maxRecDepth 100000 in
set_option maxHeartbeats 2000000 in
theorem around31_any (a b : Rc) (w : World) : Ans Try.prog 79 #[.agg #[.int .i64 a.vf, .int .i64 a.vt, .int .i64 a.sf, .int .i64 a.st], .agg #[.int .i64 b.vf, .int .i64 b.vt, .int .i64 b.sf, .int .i64 b.st]] w (.agg #[.int .i64 (min a.vf b.vf), .int .i64 (max a.vt b.vt), .int .i64 (min a.sf b.sf), .int .i64 (max a.st b.st)]) := by
  unfold Ans
  go_enter Try.func79, Try.ntmps79
  have HB := BW.refl w
  go_wp2_with fail
  all_goals exact bodyPost_ret (v := .agg #[.int .i64 (min a.vf b.vf), .int .i64 (max a.vt b.vt), .int .i64 (min a.sf b.sf), .int .i64 (max a.st b.st)]) (by simp [results, Try.results79, go_sem] <;> omega) rfl ⟨rfl, by exact BW.fin⟩
theorem around31_of (R : Rc) (v : Ver) (w : World) : Ans Try.prog 79 #[.agg #[.int .i64 R.vf, .int .i64 R.vt, .int .i64 R.sf, .int .i64 R.st], .agg #[.int .i64 v.p.vf, .int .i64 v.p.vt, .int .i64 v.p.sf, .int .i64 v.p.st]] w (.agg #[.int .i64 (joinR R (rc v.p)).vf, .int .i64 (joinR R (rc v.p)).vt, .int .i64 (joinR R (rc v.p)).sf, .int .i64 (joinR R (rc v.p)).st]) := around31_any R (rc v.p) w
set_option maxRecDepth 100000 in
set_option maxHeartbeats 2000000 in
theorem around37_any (s : Sl Ver) (w : World) (h : kVer.Inv w s) (hne : 0 < s.xs.length) : Ans Try.prog 49 #[.slice s.A s.xs.length s.cap] w (vRc (bnd (pv s.xs))) := by
  unfold Ans
  have HI := Lib.hid h
  have hmx : s.xs.length ≤ 9223372036854775807 := Nat.le_trans h.le h.mx
  clear h
  obtain ⟨b, o, hA, hb, c0, c1, c2, c3, c4, c5, c6, c7, c8, hr⟩ := ver_at HI.out 0 hne
  have HA := Lib.hid hA
  rw [hA]
  clear hA hr
  have HB := BW.refl w
  simp only [Nat.zero_mul, Nat.add_zero] at c0 c1 c2 c3 c4 c5 c6 c7 c8
  go_enter Try.func49, Try.ntmps49
  obtain ⟨r0, HR0⟩ : ∃ r, Hid (r = rc s.xs[0].p) := ⟨_, Lib.hid rfl⟩
  have HZ : Hid (BoxR (w.alloc (.cells #[.int .i64 0, .int .i64 0, .int .i64 0, .int .i64 0] 51)) w.heap.size ⟨0, 0, 0, 0⟩) := heap_alloc_new w _
  go_wp2_with (go_at_call 78; refine Calls.mono (rect37_any s.xs[0] _) ?_; rintro e1 w1 ⟨rfl, b1⟩; replace HB := BW.next b1; rw [← HR0.out]; simp only [vRc, Rc.cells])
  have hg1 : w.heap.size < w1.heap.size := by have := b1.size; simp at this; omega
  have HZ1 : Hid (BoxR w1 w.heap.size ⟨0, 0, 0, 0⟩) := HZ.out.below b1 (by simp)
  have HG1 : Hid (BoxR (w1.alloc (.cells #[.int .i64 r0.vf, .int .i64 r0.vt, .int .i64 r0.sf, .int .i64 r0.st] 51)) w1.heap.size r0) := heap_alloc_new w1 _
  have HZ2 : Hid (BoxR (w1.alloc (.cells #[.int .i64 r0.vf, .int .i64 r0.vt, .int .i64 r0.sf, .int .i64 r0.st] 51)) w.heap.size ⟨0, 0, 0, 0⟩) := HZ1.out.below ((BW.refl w1).alloc _).out hg1
  have HBG : Hid (BW w (w1.alloc (.cells #[.int .i64 r0.vf, .int .i64 r0.vt, .int .i64 r0.sf, .int .i64 r0.st] 51))) := HB.alloc _
  obtain ⟨g, hg⟩ : ∃ g, g = w1.heap.size := ⟨_, rfl⟩
  rw [← hg] at hg1 HG1 ⊢
  generalize hW : w1.alloc _ = W at HG1 HBG HZ2 ⊢
  clear HB hg hW HZ HZ1 b1 c0 c1 c2 c3 c4 c5 c6 c7 c8 hb w1
  go_wp2_with fail
  go_loopw [12] (fun i wr => ∃ k : Nat, k ≤ s.xs.length ∧ i = .int .i64 k ∧ Hid (BoxR wr g (((pv s.xs).take k).foldl (fun r x => joinR r (rc x)) r0)) ∧ Hid (BoxR wr w.heap.size ⟨0, 0, 0, 0⟩) ∧ BW w wr) (fun i _ => s.xs.length - (intOf i).toNat)
  case atStart => exact ⟨0, Nat.zero_le _, rfl, HG1.out, HZ2.out, HBG.out⟩
  case round =>
    obtain ⟨k, hk, rfl, HG, HZ, HB⟩ := hrel
    clear HG1 HZ2 HBG
    by_cases hlt : k < s.xs.length
    · obtain ⟨b', o', hA', hb, c0, c1, c2, c3, c4, c5, c6, c7, c8, hr⟩ := ver_at (HI.out.below HB.out) k hlt
      have hA2 := hA'.symm.trans HA.out
      simp only [Option.some.injEq, Addr.mk.injEq, and_true] at hA2
      obtain ⟨rfl, rfl⟩ := hA2
      clear hr hA'
      have hgl := HG.out.lt
      have hzl := HZ.out.lt
      obtain ⟨R, HR⟩ : ∃ R, Hid (R = (((pv s.xs).take k).foldl (fun r x => joinR r (rc x)) r0)) := ⟨_, Lib.hid rfl⟩
      rw [← HR.out] at HG
      have HV : Hid (BoxV (wr.alloc (.cells s.xs[k].cells.toArray 59)) wr.heap.size s.xs[k]) := heap_alloc_new wr _
      have HW : Hid (BW wr (wr.alloc (.cells s.xs[k].cells.toArray 59))) := (BW.refl wr).alloc _
      go_wp2_with fail
      generalize hW : wr.alloc _ = W0
      replace HV : Hid (BoxV W0 wr.heap.size s.xs[k]) := by subst hW; exact HV
      replace HW : Hid (BW wr W0) := by subst hW; exact HW
      clear hW c0 c1 c2 c3 c4 c5 c6 c7 c8
      have HG0 := Lib.hid (HG.out.below HW.out.out hgl)
      have HZ0 := Lib.hid (HZ.out.below HW.out.out hzl)
      replace HB := HB.trans HW.out
      have hgl0 : g < W0.heap.size := HG0.out.lt
      have hne : wr.heap.size ≠ g := by omega
      obtain ⟨d0, d1, d2, d3, e3, e4, e5, e6⟩ := held8 HG0.out HV.out
      refine wp_region_quiet_tail (RgC W0 g R wr.heap.size s.xs[k]) 4 (by kernel_rfl) (by kernel_rfl) (RgC.bw ⟨HG0.out, HV.out, BW.refl W0⟩ ((BW.refl W0).drew)) ?_
      simp only [List.take_succ_cons, List.take_zero, List.drop_succ_cons, List.drop_zero]
      clear d0 d1 d2 d3 e3 e4 e5 e6
      refine quiet_put rfl (.agg #[.int .i64 R.vf, .int .i64 R.vt, .int .i64 R.sf, .int .i64 R.st]) (fun W hW => ?_) ?_
      · obtain ⟨d0, d1, d2, d3⟩ := boxr4 hW.1
        go_simp
      simp only [Act.put, List.setIfInBounds_toArray, List.set_cons_zero, List.set_cons_succ]
      refine quiet_put rfl (.agg #[.int .i64 s.xs[k].p.id, .int .i64 s.xs[k].p.sch, .slice s.xs[k].A s.xs[k].p.row.length s.xs[k].c, .int .i64 s.xs[k].p.vf, .int .i64 s.xs[k].p.vt, .int .i64 s.xs[k].p.sf, .int .i64 s.xs[k].p.st, .int .i64 s.xs[k].p.by', .int .i64 s.xs[k].p.un]) (fun W hW => ?_) ?_
      · obtain ⟨e0, e1, e2, e3, e4, e5, e6, e7, e8⟩ := box9 hW.2.1
        go_simp
      simp only [Act.put, List.setIfInBounds_toArray, List.set_cons_zero, List.set_cons_succ]
      refine quiet_put rfl (.agg #[.int .i64 s.xs[k].p.vf, .int .i64 s.xs[k].p.vt, .int .i64 s.xs[k].p.sf, .int .i64 s.xs[k].p.st]) (fun W hW => ?_) ?_
      · go_simp
        refine Calls.mono (rect37_lit s.xs[k] W) ?_
        rintro e1 w1 ⟨rfl, b1⟩
        exact ⟨rfl, hW.bw ⟨b1⟩⟩
      simp only [Act.put, List.setIfInBounds_toArray, List.set_cons_zero, List.set_cons_succ]
      refine quiet_put rfl (.agg #[.int .i64 (joinR R (rc s.xs[k].p)).vf, .int .i64 (joinR R (rc s.xs[k].p)).vt, .int .i64 (joinR R (rc s.xs[k].p)).sf, .int .i64 (joinR R (rc s.xs[k].p)).st]) (fun W hW => ?_) ?_
      · go_simp
        refine Calls.mono (around31_of R s.xs[k] W) ?_
        rintro e1 w1 ⟨rfl, b1⟩
        exact ⟨rfl, hW.bw ⟨b1⟩⟩
      simp only [Act.put, List.setIfInBounds_toArray, List.set_cons_zero, List.set_cons_succ]
      refine wpQuiet_nil ?_
      rintro W2 ⟨hG2, hV2, hB2⟩
      obtain ⟨y0, y1, y2, y3⟩ := boxr4 hG2
      have hf2 := hG2.froz
      go_wp2_with fail
      go_roundw
      case rel =>
        have hgw : w.heap.size ≤ g := Nat.le_of_lt hg1
        refine ⟨k + 1, by omega, by go_num, ?_, (HZ0.out.bw hB2).other (Nat.ne_of_lt hg1) (joinR R (rc s.xs[k].p)), ((((HB.trans hB2).setCell hgw _).setCell hgw _).setCell hgw _).setCell hgw _⟩
        have hf : ((pv s.xs).take (k + 1)).foldl (fun r x => joinR r (rc x)) r0 = joinR R (rc s.xs[k].p) := by
          have hkp : k < (pv s.xs).length := by simpa [pv] using hlt
          rw [List.take_succ_eq_append_getElem hkp, List.foldl_append, ← HR.out]
          simp [pv]
        rw [hf]
        exact hG2.set (joinR R (rc s.xs[k].p))
      case measure => simp [intOf]; omega
    · have hend : ((pv s.xs).take k).foldl (fun r x => joinR r (rc x)) r0 = bnd (pv s.xs) := by
        rw [List.take_of_length_le (by simp [pv]; omega), HR0.out]
        exact bnd_first _ hne
      rw [hend] at HG
      obtain ⟨q, HQ⟩ : ∃ q, Hid (q = bnd (pv s.xs)) := ⟨_, Lib.hid rfl⟩
      rw [← HQ.out] at HG
      clear hend
      obtain ⟨d0, d1, d2, d3⟩ := boxr4 HG.out
      obtain ⟨e0, e1, e2, e3⟩ := boxr4 HZ.out
      have hf := HZ.out.froz
      go_wp2
      exact bodyPost_ret (v := vRc q) (by simp [results, Try.results49, go_sem, vRc, Rc.cells, e0, e1, e2, e3, hf]) rfl ⟨by rw [HQ.out], (((((BW.setCell HB (Nat.le_refl _) _).setCell (Nat.le_refl _) _).setCell (Nat.le_refl _) _).setCell (Nat.le_refl _) _)).out⟩
end Go.Proofs.Ytndlhmnablefpaa
