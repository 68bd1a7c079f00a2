/- What compaction.check answers. -/
import Derived.Test.YtndlhmnablefpaaCmp2
namespace Go.Proofs.Ytndlhmnablefpaa
open Go.RowKit
theorem encode_one_ok {v : PVer} (h : okVer v = true) : (encodeVers [v]).2 = 0 := by
  have hc : chk okVer none [v] = 0 := by rw [chk_cons, if_neg (by simp [h]), ahead, if_neg (by simp)]; rfl
  have hl : ¬ 1048576 < (encVers [v]).length := by
    have := encVer_len h
    have := encInt_len (I64.nat (n := 1) (by decide))
    simp [encVers] at *
    omega
  rw [encodeVers_ok (by simp) hc hl]
theorem encode_one_bad {v : PVer} (h : okVer v = false) : (encodeVers [v]).2 = 8 := by
  have hc : chk okVer none [v] = 8 := by rw [chk_cons, if_pos h]
  rw [encodeVers_bad (by simp) (by rw [hc]; decide), hc]
set_option maxHeartbeats 1000000 in
set_option maxRecDepth 100000 in
theorem cCheck_any (s : Sl Ver) (w : World) (h : kVer.Inv w s) (hf : VFits s.xs) :
    Ans Try.prog 30 #[.slice s.A s.xs.length s.cap] w (.int .i64 (chk okVer none (pv s.xs))) := by
  unfold Ans
  have HF := Lib.hid hf
  have HI := Lib.hid h
  have hmx : s.xs.length ≤ 9223372036854775807 := Nat.le_trans h.le h.mx
  clear hf h
  go_enter Try.func30, Try.ntmps30
  go_wp2_with fail
  go_loopw [3, 4, 9] (fun _ _ i wr => ∃ k : Nat, k ≤ s.xs.length ∧ i = .int .i64 k ∧ Hid (chk okVer none (pv s.xs) = chk okVer (prevAt (pv s.xs) k) ((pv s.xs).drop k)) ∧ BW w wr) (fun _ _ i _ => s.xs.length - (intOf i).toNat)
  case atStart => exact ⟨0, Nat.zero_le _, rfl, rfl, BW.refl w⟩
  case round =>
    obtain ⟨k, hk, rfl, HP, HB⟩ := hrel
    by_cases hlt : k < s.xs.length
    · obtain ⟨b, o, hA, hb, c0, c1, c2, c3, c4, c5, c6, c7, c8, hr⟩ := ver_at (HI.out.below HB.out) k hlt
      have HA := Lib.hid hA
      have HR := Lib.hid hr
      have HB0 := HB
      clear hr
      rw [hA]
      clear hA
      have HL : Hid (k < (pv s.xs).length) := by show _ < _; simpa [pv] using hlt
      have HX : Hid ((pv s.xs)[k]'HL.out = s.xs[k].p) := by show _ = _; simp [pv]
      by_cases hok : okVer s.xs[k].p = true
      · have HE := Lib.hid (encode_one_ok hok)
        have HOK := Lib.hid hok
        clear hok
        go_wp2_with fail
        refine Calls.mono (encodeVersions_any ⟨some ⟨wr.heap.size + 1, 0, none⟩, 1, [s.xs[k]]⟩ _ ?_ ?_) ?_
        · exact lit_inv kVer [s.xs[k]] (heap_new (by simp)) rfl (fun x hx => by simp at hx; subst hx; exact HR.out.below (by exact BW.fin)) (by simp)
        · exact fun x hx => by simp at hx; subst hx; exact HF.out _ (List.getElem_mem hlt)
        rintro e w1 ⟨v, rfl, ⟨z, rfl, hz, hzx, _⟩, hb1⟩
        rw [show (encodeVers (pv [s.xs[k]])).2 = 0 from HE.out]
        have HBX : Hid (BoxV w1 wr.heap.size s.xs[k]) := (hb1.block _ szlt).trans ((Below.heap_alloc _ _ _ szlt).trans (heap_alloc_new wr _))
        replace HB := BW.next hb1
        clear hz hzx hb1
        by_cases h0 : 0 < k
        · obtain ⟨d0, d1, d2, d3, d4, d5, d6, d7, d8⟩ := box9 HBX.out
          obtain ⟨b', o', hA', hb', e0, e1, e2, e3, e4, e5, e6, e7, e8, hr'⟩ := ver_at (HI.out.below HB.out) (k - 1) (by omega)
          have hA2 := hA'.symm.trans HA.out
          simp only [Option.some.injEq, Addr.mk.injEq, and_true] at hA2
          obtain ⟨rfl, rfl⟩ := hA2
          obtain ⟨q1, q2, q3, q4, q5⟩ := idx_pred h0 hlt hmx
          go_wp2_with fail
          go_still_tail 9, (by kernel_rfl)
          change wpList _ _ _ _ _ w1.drew
          have HOB := Lib.hid (ord_before s.xs[k - 1].p s.xs[k].p)
          go_wp2_with (go_at_call 33; refine (order_any s.xs[k - 1] s.xs[k] _).mono ?_; rintro e w2 ⟨rfl, hb2⟩; replace HB := BW.next hb2)
          case _ =>
            go_ret
            exact ⟨ret_i64 (chk_order (l := pv s.xs) (k := k) HL.out HP.out (by rw [HX.out]; exact HOK.out) h0 (by simpa [pv] using HOB.out.symm.trans (decide_eq_true ‹0 ≤ ord _ _›))).symm, HB.out⟩
          case _ =>
            go_roundw
            case rel => exact ⟨k + 1, by omega, by go_num, chk_next (l := pv s.xs) (k := k) HL.out HP.out (by rw [HX.out]; exact HOK.out) (fun _ => by simpa [pv] using HOB.out.symm.trans (decide_eq_false (Int.not_le.2 ‹ord _ _ < 0›))), HB⟩
            case measure => simp [intOf]; omega
        · obtain rfl : k = 0 := by omega
          have hd : decide ((0 : Nat) < 0) = false := rfl
          go_wp2_with fail
          go_quiet (fail)
          go_wp2
          go_roundw
          case rel => exact ⟨1, by omega, by go_num, chk_next (l := pv s.xs) (k := 0) HL.out HP.out (by rw [HX.out]; exact HOK.out) (fun h => absurd h (by omega)), HB.drewN _⟩
          case measure => simp [intOf]; omega
      · have hok' : okVer s.xs[k].p = false := by simpa using hok
        have HE := Lib.hid (encode_one_bad hok')
        have HOK := Lib.hid hok'
        clear hok hok'
        go_wp2_with fail
        refine Calls.mono (encodeVersions_any ⟨some ⟨wr.heap.size + 1, 0, none⟩, 1, [s.xs[k]]⟩ _ ?_ ?_) ?_
        · exact lit_inv kVer [s.xs[k]] (heap_new (by simp)) rfl (fun x hx => by simp at hx; subst hx; exact HR.out.below (by exact BW.fin)) (by simp)
        · exact fun x hx => by simp at hx; subst hx; exact HF.out _ (List.getElem_mem hlt)
        rintro e w1 ⟨v, rfl, ⟨z, rfl, hz, hzx, _⟩, hb1⟩
        rw [show (encodeVers (pv [s.xs[k]])).2 = 8 from HE.out]
        have HBX : Hid (BoxV w1 wr.heap.size s.xs[k]) := (hb1.block _ szlt).trans ((Below.heap_alloc _ _ _ szlt).trans (heap_alloc_new wr _))
        replace HB := BW.next hb1
        clear hz hzx hb1
        go_wp2
        go_ret
        exact ⟨ret_i64 (chk_bad (l := pv s.xs) HL.out HP.out (by rw [HX.out]; exact HOK.out)).symm, HB.out⟩
    · go_wp2
      go_ret
      exact ⟨ret_i64 (chk_end (by simp [pv]; omega) HP.out).symm, HB.out⟩
end Go.Proofs.Ytndlhmnablefpaa
