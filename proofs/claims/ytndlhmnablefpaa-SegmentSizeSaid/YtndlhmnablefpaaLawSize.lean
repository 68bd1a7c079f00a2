/- The law SegmentSize is true. -/
import Derived.Test.YtndlhmnablefpaaWorks7
namespace Go.Proofs.Ytndlhmnablefpaa
open Go.RowKit
set_option linter.unusedSimpArgs false
set_option linter.unusedVariables false
theorem per31_any (a b : Int) (w : World) : Ans Try.prog 61 #[.agg #[.int .i64 a, .int .i64 b]] w (.bool (okPer a b)) := by
  unfold Ans
  go_enter Try.func61, Try.ntmps61
  go_wp2
  all_goals
    go_ret
    exact ⟨ret_bool (by simp [okPer, *] <;> omega), below_a (below_refl w) (Nat.le_refl _) _⟩
set_option maxRecDepth 100000 in
set_option maxHeartbeats 1000000 in
theorem valid31_any (r : Rc) (w : World) : Ans Try.prog 28 #[.agg #[.int .i64 r.vf, .int .i64 r.vt, .int .i64 r.sf, .int .i64 r.st]] w (.bool (okRc r)) := by
  unfold Ans
  have HB := BW.refl w
  go_enter Try.func28, Try.ntmps28
  go_wp2_with (go_at_call 61; refine Calls.mono (per31_any _ _ _) ?_; rintro e1 w1 ⟨rfl, b1⟩; replace HB := BW.next b1; have hk := bcell b1)
  all_goals
    go_ret
    exact ⟨ret_bool (by simp [okRc, *]), by exact BW.fin⟩
set_option maxRecDepth 100000 in
set_option maxHeartbeats 2000000 in
theorem lawSize_any (s : Sl Ver) (bk : Nat) (R : Rc) (hbk : bk < 256) (w : World) (h : kVer.Inv w s) (hf : VFits s.xs) :
    Ans Try.prog 7 #[.slice s.A s.xs.length s.cap, .int .u8 (bk : Int), .agg #[.int .i64 R.vf, .int .i64 R.vt, .int .i64 R.sf, .int .i64 R.st]] w (.bool true) := by
  unfold Ans
  have HF := Lib.hid hf
  have HX : Hid (BoxR (w.alloc (.cells #[.int .i64 R.vf, .int .i64 R.vt, .int .i64 R.sf, .int .i64 R.st] 51)) w.heap.size R) := heap_alloc_new w _
  have HI : Hid (kVer.Inv (w.alloc (.cells #[.int .i64 R.vf, .int .i64 R.vt, .int .i64 R.sf, .int .i64 R.st] 51)) s) := h.below ((BW.refl w).alloc _).out
  have HBA : Hid (BW w (w.alloc (.cells #[.int .i64 R.vf, .int .i64 R.vt, .int .i64 R.sf, .int .i64 R.st] 51))) := (BW.refl w).alloc _
  clear h hf
  go_enter Try.func7, Try.ntmps7
  go_wp2_with fail
  generalize hW : w.alloc _ = W0 at HX HI HBA ⊢
  clear hW
  refine Calls.mono (few37_any s W0 HI.out) ?_
  rintro e1 w1 ⟨b, rfl, hb, b1⟩
  have HB : BW W0 w1 := ⟨b1⟩
  have HL := Lib.hid hb
  clear hb b1
  cases b with
  | false =>
    go_wp2_with fail
    refine Calls.mono (works37_any _) ?_
    rintro e2 w2 ⟨rfl, b2⟩
    go_wp2_with fail
    go_ret
    exact ⟨rfl, (HBA.out.trans (HB.trans ⟨b2⟩)).out⟩
  | true =>
    have hl := HL.out rfl
    clear HL
    obtain ⟨m, hm⟩ : ∃ m, m = bk % 20 := ⟨_, rfl⟩
    have hrem : ((bk : Int)).tmod 20 = (m : Int) := by rw [hm]; exact (Int.tmod_eq_emod_of_nonneg (by omega)).trans (by omega)
    have hm20 : m < 20 := by omega
    have hpv : (pv s.xs).length ≤ 100 := by rw [pv_len]; omega
    have HEQ : Hid ((segBuild [116] (pv s.xs) 1).2 = (segBuild [116] (pv s.xs) (2 + (m : Int))).2) := segBuild_err (by decide) (by decide) (by omega) (by omega) hpv
    clear hm
    go_wp2_with fail
    refine Calls.mono (build_of (tl := [116]) (L := pv s.xs) (xs := s.xs) rfl rfl rfl 1 w1 (HI.out.below HB.out) HF.out (by decide) (by omega) _ rfl) ?_
    rintro e2 w2 ⟨o1, rfl, ho1, hox1, HB2⟩
    have HO1 := Lib.hid ho1
    have HBX := HB.trans HB2
    have HOX1 := Lib.hid hox1
    clear ho1 HB2 hox1
    go_wp2_with fail
    refine Calls.mono (build_of (tl := [116]) (L := pv s.xs) (xs := s.xs) rfl rfl rfl (2 + (m : Int)) w2 (HI.out.below HBX.out) HF.out (by decide) (by omega) _ rfl) ?_
    rintro e3 w3 ⟨o2, rfl, ho2, hox2, HB3⟩
    have HO2 := Lib.hid ho2
    replace HO1 := Lib.hid (HO1.out.below HB3.out)
    replace HBX := HBX.trans HB3
    clear ho2 HB3 hrem
    rw [← HEQ.out]
    by_cases he : (segBuild [116] (pv s.xs) 1).2 = 0
    · have HF1 : Hid (segBuild [116] (pv s.xs) 1 = (o1.xs, 0)) := by show _ = _; rw [HOX1.out, ← he]
      have HF2 : Hid (segBuild [116] (pv s.xs) (2 + (m : Int)) = (o2.xs, 0)) := by show _ = _; rw [hox2, ← he, HEQ.out]
      have hlen1 := segBuild_len HF1.out hpv
      have hlen2 := segBuild_len HF2.out hpv
      obtain ⟨n, hn⟩ : ∃ n, n = 2 + m := ⟨_, rfl⟩
      have hnt : (2 + (m : Int)).toNat = n := by omega
      have HP1 : Hid (segOpen o1.xs = .ok ([116], chunks 1 (pv s.xs))) := segOpen_build HF1.out (by omega)
      have HP2 : Hid (segOpen o2.xs = .ok ([116], chunks n (pv s.xs))) := by
        have := segOpen_build HF2.out (by omega)
        rwa [hnt] at this
      have HCK := (segBuild_ok HF1.out).chk
      have HK1 : Hid (SegOk (chunks 1 (pv s.xs))) := segOk_chunks (by omega) HCK (by omega)
      have HK2 : Hid (SegOk (chunks n (pv s.xs))) := segOk_chunks (by omega) HCK (by omega)
      obtain ⟨N, hN⟩ : ∃ N, N = (chunks n (pv s.xs)).length := ⟨_, rfl⟩
      have HN : Hid ((chunks n (pv s.xs)).length = N) := hN.symm
      obtain ⟨K, hK⟩ : ∃ K, K = (segSearch (chunks n (pv s.xs)) R).2 := ⟨_, rfl⟩
      obtain ⟨F, hF⟩ : ∃ F, F = (found R (pv s.xs)).length := ⟨_, rfl⟩
      have HR1 : Hid (segSearch (chunks 1 (pv s.xs)) R = (found R (pv s.xs), F)) := by
        have h1 := search_flat (chunks 1 (pv s.xs)) R HK1.out.ok
        rw [chunks_flat (by omega) _ _ (Nat.le_refl _)] at h1
        exact Prod.ext h1 (by rw [search_one, h1, hF])
      have HR2 : Hid (segSearch (chunks n (pv s.xs)) R = (found R (pv s.xs), K)) := by
        have h1 := search_flat (chunks n (pv s.xs)) R HK2.out.ok
        rw [chunks_flat (by omega) _ _ (Nat.le_refl _)] at h1
        exact Prod.ext h1 hK.symm
      have hKN : K ≤ N := by rw [hK, hN]; exact search_le _ _
      have HK0 : Hid (0 < K ∨ found R (pv s.xs) = []) := by
        have h1 := search_read (chunks n (pv s.xs)) R
        rw [HR2.out] at h1
        exact h1
      have HKB : Hid (okRc R = false → K = 0) := fun hb => by
        have h1 := search_bad (chunks n (pv s.xs)) R hb
        rwa [← hK] at h1
      have HFL : Hid (F = (found R (pv s.xs)).length) := hF
      rw [he]
      clear he hox2 hpv hnt HCK hN hn hK hF
      go_wp2_with fail
      refine Calls.mono (open_of w3 HO1.out hlen1 HP1.out) ?_
      rintro e4 w4 ⟨g1, s1, rfl, hs1, hss1, HB4⟩
      have HS1 := Lib.hid hs1
      have HSS1 := Lib.hid hss1
      replace HO2 := Lib.hid (HO2.out.below HB4.out)
      replace HBX := HBX.trans HB4
      clear hs1 hss1 HB4
      go_wp2_with fail
      refine Calls.mono (open_of w4 HO2.out hlen2 HP2.out) ?_
      rintro e5 w5 ⟨g2, s2, rfl, hs2, hss2, HB5⟩
      have HS2 := Lib.hid hs2
      have HSS2 := Lib.hid hss2
      replace HS1 := Lib.hid (HS1.out.bw HB5)
      replace HBX := HBX.trans HB5
      clear hs2 hss2 HB5
      obtain ⟨d0, d1, d2, d3⟩ := boxr4 (HX.out.bw HBX)
      go_wp2_with fail
      refine Calls.mono (search_of R w5 HS1.out HSS1.out HK1.out _ HR1.out) ?_
      rintro e6 w6 ⟨A6, c6, zs1, rfl, hz1, hp1, HB6⟩
      simp only at hp1 ⊢
      have HZ1 := Lib.hid hz1
      have HPV1 := Lib.hid hp1
      have hF1 : F = zs1.length := by rw [HFL.out, ← hp1, pv_len]
      subst hF1
      replace HS2 := Lib.hid (HS2.out.bw HB6)
      replace HBX := HBX.trans HB6
      clear hz1 hp1 HB6 d0 d1 d2 d3 HFL HR1
      obtain ⟨d0, d1, d2, d3⟩ := boxr4 (HX.out.bw HBX)
      go_wp2_with fail
      refine Calls.mono (search_of R w6 HS2.out HSS2.out HK2.out _ HR2.out) ?_
      rintro e7 w7 ⟨A7, c7, zs2, rfl, hz2, hp2, HB7⟩
      simp only at hp2 ⊢
      have HZ2 := Lib.hid hz2
      have HPV2 := Lib.hid hp2
      replace HZ1 := Lib.hid (HZ1.out.below HB7.out)
      replace HS2 := Lib.hid (HS2.out.bw HB7)
      replace HBX := HBX.trans HB7
      clear hz2 hp2 HB7 d0 d1 d2 d3
      go_wp2_with fail
      refine Calls.mono (same_of rfl rfl w7 HZ1.out HZ2.out (HPV1.out.trans HPV2.out.symm)) ?_
      rintro e8 w8 ⟨rfl, b8⟩
      replace HS2 := Lib.hid (HS2.out.bw ⟨b8⟩)
      replace HBX := HBX.trans ⟨b8⟩
      clear b8
      go_wp2_with fail
      refine Calls.mono (blocks_of w8 HS2.out HSS2.out N HN.out) ?_
      rintro e9 w9 ⟨rfl, b9⟩
      replace HBX := HBX.trans ⟨b9⟩
      clear b9
      have hKN' : (K : Int) ≤ (N : Int) := by omega
      obtain ⟨d0, d1, d2, d3⟩ := boxr4 (HX.out.bw HBX)
      by_cases hK : 0 < K
      · have hK' : (0 : Int) < (K : Int) := by omega
        cases hR : okRc R with
        | false => exact absurd (HKB.out hR) (by omega)
        | true =>
          have HRR := Lib.hid hR
          clear hR
          go_wp2_with fail
          refine Calls.mono (valid31_any R w9) ?_
          rintro e10 w10 ⟨rfl, b10⟩
          rw [HRR.out]
          replace HBX := HBX.trans ⟨b10⟩
          clear b10
          go_wp2_with fail
          refine Calls.mono (works37_any _) ?_
          rintro e11 w11 ⟨rfl, b11⟩
          go_wp2_with fail
          go_ret
          exact ⟨rfl, (HBA.out.trans (HBX.trans ⟨b11⟩)).out⟩
      · obtain rfl : K = 0 := by omega
        have hz0 : zs2.length = 0 := by
          rcases HK0.out with h1 | h1
          · omega
          · rw [← pv_len, HPV2.out, h1]; rfl
        go_wp2_with fail
        refine Calls.mono (valid31_any R w9) ?_
        rintro e10 w10 ⟨rfl, b10⟩
        replace HBX := HBX.trans ⟨b10⟩
        clear b10
        cases okRc R with
        | false =>
          go_wp2_with fail
          refine Calls.mono (works37_any _) ?_
          rintro e11 w11 ⟨rfl, b11⟩
          go_wp2_with fail
          go_ret
          exact ⟨rfl, (HBA.out.trans (HBX.trans ⟨b11⟩)).out⟩
        | true =>
          go_wp2_with fail
          refine Calls.mono (works37_any _) ?_
          rintro e11 w11 ⟨rfl, b11⟩
          go_wp2_with fail
          go_ret
          exact ⟨rfl, (HBA.out.trans (HBX.trans ⟨b11⟩)).out⟩
    · obtain ⟨er, her⟩ : ∃ er, er = (segBuild [116] (pv s.xs) 1).2 := ⟨_, rfl⟩
      rw [← her] at he ⊢
      clear her hox2 HEQ
      go_wp2_with fail
      refine Calls.mono (works37_any _) ?_
      rintro e4 w4 ⟨rfl, b4⟩
      go_wp2_with fail
      go_ret
      exact ⟨rfl, (HBA.out.trans (HBX.trans ⟨b4⟩)).out⟩
end Go.Proofs.Ytndlhmnablefpaa
