/- segment.check: the first error of versions to be stored. -/
import Derived.Test.YtndlhmnablefpaaSegM
import Derived.Test.YtndlhmnablefpaaRec3
import Derived.Test.YtndlhmnablefpaaSub
import Derived.Test.YtndlhmnablefpaaSeg1
namespace Go.Proofs.Ytndlhmnablefpaa
open Go.RowKit
set_option linter.unusedSimpArgs false
set_option linter.unusedVariables false
theorem pv_len' (xs : List Ver) : (pv xs).length = xs.length := pv_len xs
theorem encodeVersions_sub {s : Sl Ver} {b o : Nat} (w : World) (h : kVer.Inv w s) (hf : VFits s.xs) (hA : s.A = some ⟨b, o, none⟩) (l m L c : Nat) (hlm : l + m ≤ s.xs.length) (hL : L = m) (hc : c = s.cap - l) :
    AnsR Try.prog 44 #[.slice (some ⟨b, o + l * 9, none⟩) L c] w (BytesE w (encodeVers (pv ((s.xs.drop l).take m)))) := by
  have h1 := h.sub hA l m hlm
  have h2 := encodeVersions_any ⟨some ⟨b, o + l * 9, none⟩, s.cap - l, (s.xs.drop l).take m⟩ w h1 fun v hv => hf v (List.mem_of_mem_drop (List.mem_of_mem_take hv))
  have h3 : ((s.xs.drop l).take m).length = m := by rw [List.length_take, List.length_drop]; omega
  simp only [h3] at h2
  subst hL hc
  exact h2
theorem sub_one {l : List PVer} {k : Nat} (hk : k < l.length) : (l.drop k).take 1 = [l[k]] := by
  rw [List.drop_eq_getElem_cons hk]; rfl
theorem sub_two {l : List PVer} {k : Nat} (h0 : 0 < k) (hk : k < l.length) : (l.drop (k - 1)).take 2 = [l[k - 1], l[k]] := by
  rw [List.drop_eq_getElem_cons (by omega)]
  have : k - 1 + 1 = k := by omega
  simp only [this]
  rw [List.drop_eq_getElem_cons hk]; rfl
set_option maxRecDepth 100000 in
set_option maxHeartbeats 2000000 in
theorem sCheck_any (s : Sl Ver) (w : World) (h : kVer.Inv w s) (hf : VFits s.xs) (hl : s.xs.length ≤ 1000000000) :
    Ans Try.prog 40 #[.slice s.A s.xs.length s.cap] w (.int .i64 (chk okStored none (pv s.xs))) := by
  unfold Ans
  have HI := Lib.hid h
  have HF := Lib.hid hf
  have hle := h.le
  have hmx := h.mx
  clear h hf
  go_enter Try.func40, Try.ntmps40
  go_wp2_with fail
  go_loopw [3, 4, 5, 6, 7, 8, 11] (fun _ _ _ _ _ _ i wr => ∃ k : Nat, k ≤ s.xs.length ∧ i = .int .i64 k ∧ Hid (chk okStored none (pv s.xs) = chk okStored (prevAt (pv s.xs) k) ((pv s.xs).drop k)) ∧ Hid (∀ j, (hj : j < s.xs.length) → j < k → okVer s.xs[j].p = true) ∧ BW w wr) (fun _ _ _ _ _ _ i _ => s.xs.length - (intOf i).toNat)
  case atStart => exact ⟨0, Nat.zero_le _, rfl, rfl, fun j _ hj => by omega, BW.refl w⟩
  case round =>
    obtain ⟨k, hk, rfl, HP, HK, HB⟩ := hrel
    by_cases hlt : k < s.xs.length
    · obtain ⟨b, o, hA, hb, c0, c1, c2, c3, c4, c5, c6, c7, c8, hr⟩ := ver_at (HI.out.below HB.out) k hlt
      have HA := Lib.hid hA
      rw [hA]
      clear hA hr
      have hpl : k < (pv s.xs).length := by rw [pv_len']; exact hlt
      have HV : Hid ((pv s.xs)[k] = s.xs[k].p) := by show _ = _; simp [pv]
      have H1 : Hid ((encodeVers (pv ((s.xs.drop k).take 1))).2 = if okVer s.xs[k].p = true then 0 else 8) := by
        show _ = _; rw [pv_take', pv_drop, sub_one hpl, enc_one, HV.out]
      have HE : Hid ((encodeVers (pv ((s.xs.drop k).take 1))).1.length = (encodeVers (pv ((s.xs.drop k).take 1))).1.length) := rfl
      have hk1 : IntKind.i64.wrap ((k : Int) + 1) = ((k + 1 : Nat) : Int) := by rw [IntWalk.i64_in _ (by omega)]; omega
      have hkc : (k : Int) ≤ ((k + 1 : Nat) : Int) := by omega
      have hkd : ((k + 1 : Nat) : Int) ≤ (s.cap : Int) := by omega
      have hsb : k + 1 - k = 1 := by omega
      have HC1 : Hid (∀ W, BW wr W → ∀ L, L = 1 → AnsR Try.prog 44 #[.slice (some ⟨b, o + k * 9, none⟩) L (s.cap - k)] W (BytesE W (encodeVers (pv ((s.xs.drop k).take 1))))) := fun W hW L hL => encodeVersions_sub W (HI.out.below (HB.trans hW).out) HF.out HA.out k 1 L _ (by omega) hL rfl
      have HX0 : Hid (BoxV (wr.alloc (.cells s.xs[k].cells.toArray 59)) wr.heap.size s.xs[k]) := heap_alloc_new wr _
      have HW : Hid (BW wr (wr.alloc (.cells s.xs[k].cells.toArray 59))) := (BW.refl wr).alloc _
      go_wp2_with fail
      generalize hW : wr.alloc _ = W0
      replace HX0 : Hid (BoxV W0 wr.heap.size s.xs[k]) := by subst hW; exact HX0
      replace HW : Hid (BW wr W0) := by subst hW; exact HW
      clear hW c0 c1 c2 c3 c4 c5 c6 c7 c8
      refine Calls.mono (HC1.out W0 HW.out _ (by first | rfl | omega)) ?_
      rintro q w1 ⟨v1, rfl, ⟨t1, rfl, _⟩, b1⟩
      have HX := Lib.hid (HX0.out.bw ⟨b1⟩)
      replace HB := (HB.trans HW.out).trans ⟨b1⟩
      have HBw : Hid (BW wr w1) := HW.out.trans ⟨b1⟩
      clear HX0 HW b1
      obtain ⟨d0, d1, d2, d3, d4, d5, d6, d7, d8⟩ := box9 HX.out
      by_cases hv : okVer s.xs[k].p = true
      · have E1 : Hid ((encodeVers (pv ((s.xs.drop k).take 1))).2 = 0) := by show _ = _; rw [H1.out, if_pos hv]
        clear H1
        rw [E1.out]
        by_cases hst : s.xs[k].p.st = 1099511627776
        · have HN : Hid (chk okStored none (pv s.xs) = 8) := chk_bad hpl HP.out (by rw [HV.out, okStored, hst]; simp)
          go_wp2_with fail
          go_ret
          exact ⟨ret_i64 HN.out.symm, HB.out⟩
        have HOK : Hid (okStored (pv s.xs)[k] = true) := by show _ = _; rw [HV.out, okStored, hv]; simpa using hst
        replace HK : Hid (∀ j, (hj : j < s.xs.length) → j < k + 1 → okVer s.xs[j].p = true) := fun j hj hjk => by
          rcases Nat.lt_or_ge j k with h | h
          · exact HK.out j hj h
          · obtain rfl : j = k := by omega
            exact hv
        by_cases h0 : 0 < k
        · have hk0 : (0 : Int) < (k : Int) := by omega
          obtain ⟨q1, q2, q3, q4, q5⟩ := idx_pred (n := s.xs.length) h0 hlt (by omega)
          have hq6 : k + 1 - (k - 1) = 2 := by omega
          have hq7 : ((k : Int) - 1) ≤ ((k + 1 : Nat) : Int) := by omega
          go_wp2_with fail
          refine Calls.mono (encodeVersions_sub w1 (HI.out.below HB.out) HF.out HA.out (k - 1) 2 _ _ (by omega) rfl rfl) ?_
          rintro q2 w2 ⟨v2, rfl, ⟨t2, rfl, _⟩, b2⟩
          replace HB := HB.trans ⟨b2⟩
          clear d0 d1 d2 d3 d4 d5 d6 d7 d8 b2
          have HU : Hid ((pv s.xs)[k - 1] = s.xs[k - 1].p) := by show _ = _; simp [pv]
          have H2 : Hid ((encodeVers (pv ((s.xs.drop (k - 1)).take 2))).2 = if before s.xs[k - 1].p s.xs[k].p = true then 0 else 9) := by
            show _ = _
            rw [pv_take', pv_drop, sub_two h0 hpl, HU.out, HV.out, enc_two (HK.out (k - 1) (by omega) (by omega)) (HK.out k hlt (by omega))]
          by_cases hbf : before s.xs[k - 1].p s.xs[k].p = true
          · rw [show (encodeVers (pv ((s.xs.drop (k - 1)).take 2))).2 = 0 by rw [H2.out, if_pos hbf]]
            go_wp2_with fail
            go_roundw
            case rel => exact ⟨k + 1, by omega, by go_num, chk_next hpl HP.out HOK.out (fun h => by rw [HU.out, HV.out]; exact hbf), HK.out, HB⟩
            case measure => simp [intOf]; omega
          · rw [show (encodeVers (pv ((s.xs.drop (k - 1)).take 2))).2 = 9 by rw [H2.out, if_neg hbf]]
            have HN : Hid (chk okStored none (pv s.xs) = 9) := chk_order hpl HP.out HOK.out h0 (by rw [HU.out, HV.out]; simpa using hbf)
            go_wp2_with fail
            go_ret
            exact ⟨ret_i64 HN.out.symm, HB.out⟩
        · obtain rfl : k = 0 := by omega
          go_wp2_with fail
          go_roundw
          case rel => exact ⟨1, by omega, by go_num, chk_next hpl HP.out HOK.out (fun h => absurd h (by omega)), HK.out, HB⟩
          case measure => simp [intOf]; omega
      · have E1 : Hid ((encodeVers (pv ((s.xs.drop k).take 1))).2 = 8) := by show _ = _; rw [H1.out, if_neg hv]
        have HN : Hid (chk okStored none (pv s.xs) = 8) := chk_bad hpl HP.out (by rw [HV.out, okStored]; simp [hv])
        clear H1
        rw [E1.out]
        go_wp2_with fail
        go_ret
        exact ⟨ret_i64 HN.out.symm, HB.out⟩
    · have HN := Lib.hid (chk_end (by rw [pv_len']; omega) HP.out)
      go_wp2_with fail
      go_ret
      exact ⟨ret_i64 HN.out.symm, HB.out⟩
end Go.Proofs.Ytndlhmnablefpaa
