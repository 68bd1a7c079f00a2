/- The law SegmentBack is true. -/
import Derived.Test.YtndlhmnablefpaaWorks7
import Derived.Deep.RegionHeld3
namespace Go.Proofs.Ytndlhmnablefpaa
open Go.RowKit
set_option linter.unusedSimpArgs false
set_option linter.unusedVariables false
set_option maxRecDepth 100000 in
set_option maxHeartbeats 2000000 in
theorem lawBack_any (s : Sl Ver) (bk : Nat) (hbk : bk < 256) (w : World) (h : kVer.Inv w s) (hf : VFits s.xs) :
    Ans Try.prog 6 #[.slice s.A s.xs.length s.cap, .int .u8 (bk : Int)] w (.bool true) := by
  unfold Ans
  have HI := Lib.hid h
  have HF := Lib.hid hf
  clear h hf
  go_enter Try.func6, Try.ntmps6
  go_wp2_with fail
  refine Calls.mono (few37_any s w HI.out) ?_
  rintro e1 w1 ⟨b, rfl, hb, b1⟩
  have HB : BW w w1 := ⟨b1⟩
  have HL := Lib.hid hb
  clear hb b1
  cases b with
  | false =>
    go_wp2_with fail
    refine Calls.mono (works37_any _) ?_
    rintro e2 w2 ⟨rfl, b2⟩
    go_wp2_with fail
    go_ret
    exact ⟨rfl, (HB.trans ⟨b2⟩).out⟩
  | true =>
    have hl := HL.out rfl
    clear HL
    obtain ⟨m, hm⟩ : ∃ m, m = bk % 20 := ⟨_, rfl⟩
    have hrem : ((bk : Int)).tmod 20 = (m : Int) := by rw [hm]; exact (Int.tmod_eq_emod_of_nonneg (by omega)).trans (by omega)
    have hm20 : m < 20 := by omega
    clear hm
    go_wp2_with fail
    refine Calls.mono (build_of (tl := [116]) (L := pv s.xs) (xs := s.xs) rfl rfl rfl (1 + (m : Int)) w1 (HI.out.below HB.out) HF.out (by decide) (by omega) _ rfl) ?_
    rintro e2 w2 ⟨o, rfl, ho, hox, HB2⟩
    have HO := Lib.hid ho
    have HBX := HB.trans HB2
    clear ho hrem HB2
    by_cases he : (segBuild [116] (pv s.xs) (1 + (m : Int))).2 = 0
    · have HBF : Hid (segBuild [116] (pv s.xs) (1 + (m : Int)) = (o.xs, 0)) := by show _ = _; rw [hox, ← he]
      have hpv : (pv s.xs).length ≤ 100 := by rw [pv_len']; omega
      have hlen := segBuild_len HBF.out hpv
      obtain ⟨n, hn⟩ : ∃ n, n = 1 + m := ⟨_, rfl⟩
      have hnt : (1 + (m : Int)).toNat = n := by omega
      have HOP : Hid (segOpen o.xs = .ok ([116], chunks n (pv s.xs))) := by
        have := segOpen_build HBF.out (by omega)
        rwa [hnt] at this
      have HCK := (segBuild_ok HBF.out).chk
      have HOK : Hid (SegOk (chunks n (pv s.xs))) := segOk_chunks (by omega) HCK (by omega)
      have HFL : Hid ((chunks n (pv s.xs)).flatten = pv s.xs) := chunks_flat (by omega) _ _ (Nat.le_refl _)
      have HCN : Hid ((chunks n (pv s.xs)).length = (s.xs.length + n - 1) / n) := by
        have := chunks_len (n := n) (by omega) _ (pv s.xs) (Nat.le_refl _)
        rwa [pv_len'] at this
      have HSR : Hid (segSearch (chunks n (pv s.xs)) allRc = (pv s.xs, (chunks n (pv s.xs)).length)) := by
        have := search_everything (chunks n (pv s.xs)) (fun x hx => (chunks_ne (by omega) _ _ (Nat.le_refl _) x hx).1) HOK.out.ok
        rwa [HFL.out] at this
      rw [he]
      clear he hox hpv hnt HCK
      go_wp2_with fail
      refine Calls.mono (open_of w2 HO.out hlen HOP.out) ?_
      rintro e3 w3 ⟨g, ss, rfl, hs, hss, HB3⟩
      have HS := Lib.hid hs
      have HSS := Lib.hid hss
      replace HBX := HBX.trans HB3
      clear hs hss HB3
      obtain ⟨N, hN⟩ : ∃ N, N = (chunks n (pv s.xs)).length := ⟨_, rfl⟩
      have HN : Hid ((chunks n (pv s.xs)).length = N) := hN.symm
      obtain ⟨L1, hL1⟩ : ∃ L1, L1 = s.xs.length + n := ⟨_, rfl⟩
      have hw1 : IntKind.i64.wrap ((s.xs.length : Int) + (1 + (m : Int))) = (L1 : Int) := by rw [IntWalk.i64_in _ (by omega)]; omega
      have hw2 : IntKind.i64.wrap ((L1 : Int) - 1) = ((L1 - 1 : Nat) : Int) := by rw [IntWalk.i64_in _ (by omega)]; omega
      have hquo : (((L1 - 1 : Nat) : Int)).tdiv (1 + (m : Int)) = (N : Int) := by
        rw [hN, HCN.out, hL1, show (1 + (m : Int)) = (n : Int) by omega]
        exact (Int.ofNat_tdiv _ _).symm
      have hNle : N ≤ 1000 := by
        have h1 := chunks_few (l := pv s.xs) (n := n) (by omega)
        rw [pv_len] at h1
        omega
      have hw3 : IntKind.i64.wrap (N : Int) = (N : Int) := IntWalk.i64_in _ (by omega)
      obtain ⟨L2, hL2⟩ : ∃ L2, L2 = L1 - 1 := ⟨_, rfl⟩
      rw [← hL2] at hw2 hquo
      clear hL1 hL2
      have hn0 : ¬ (1 + (m : Int)) = 0 := by omega
      have HLN : Hid ((chunks n (pv s.xs)).flatten.length = s.xs.length) := by show _ = _; rw [HFL.out, pv_len]
      have HI3 := Lib.hid (HI.out.below HBX.out)
      have HC := BW.refl w3
      clear hN hn
      go_wp2_with fail
      go_region_held3 (fun _ => True) (trivial) (first
        | (go_at_call 23; refine Calls.mono (table_any g _ ss _ (HS.out.bw ⟨by exact BW.fin⟩)) ?_; rintro e4 w4 ⟨rfl, b4⟩; replace HC := BW.next b4)
        | (go_at_call 24; refine Calls.mono (len_of _ (HS.out.bw ⟨by exact BW.fin⟩) HSS.out HOK.out s.xs.length HLN.out) ?_; rintro e4 w4 ⟨rfl, b4⟩; replace HC := BW.next b4)
        | (go_at_call 25; refine Calls.mono (blocks_of _ (HS.out.bw ⟨by exact BW.fin⟩) HSS.out N HN.out) ?_; rintro e4 w4 ⟨rfl, b4⟩; replace HC := BW.next b4)
        | (go_at_call 26; refine Calls.mono (versions_of _ (HS.out.bw ⟨by exact BW.fin⟩) HSS.out HOK.out (pv s.xs) HFL.out) ?_; rintro e4 w4 ⟨A4, c4, zs4, rfl, hz4, hp4, b4⟩; have HZ4 := Lib.hid hz4; have HP4 := Lib.hid hp4; clear hz4 hp4; replace HC := BW.next b4.out)
        | (go_at_call 16; refine Calls.mono (same_of rfl rfl _ HZ4.out (HI3.out.below (by exact BW.fin)) HP4.out) ?_; rintro e5 w5 ⟨rfl, b5⟩; replace HC := BW.next b5))
      all_goals
        have HSC := Lib.hid (HS.out.bw HC)
        have HBC := HBX.trans HC
        clear HS HC HBX HI3
        rw [HN.out] at HSR
        go_wp2_with fail
        refine Calls.mono (search_of ⟨0, 1099511627776, 0, 1099511627776⟩ _ HSC.out HSS.out HOK.out _ HSR.out) ?_
        rintro e6 w6 ⟨A6, c6, zs6, rfl, hz6, hp6, HB6⟩
        simp only at hp6 ⊢
        have HZ6 := Lib.hid hz6
        have HP6 := Lib.hid hp6
        replace HSC := Lib.hid (HSC.out.bw HB6)
        replace HBC := HBC.trans HB6
        have HI6 := Lib.hid (HI.out.below HBC.out)
        clear hz6 hp6 HB6
        go_wp2_with fail
        refine Calls.mono (same_of rfl rfl w6 HZ6.out HI6.out HP6.out) ?_
        rintro e7 w7 ⟨rfl, b7⟩
        replace HSC := Lib.hid (HSC.out.bw ⟨b7⟩)
        replace HBC := HBC.trans ⟨b7⟩
        clear b7
        go_wp2_with fail
        refine Calls.mono (blocks_of w7 HSC.out HSS.out N HN.out) ?_
        rintro e8 w8 ⟨rfl, b8⟩
        replace HBC := HBC.trans ⟨b8⟩
        clear b8
        go_wp2_with fail
        refine Calls.mono (works37_any _) ?_
        rintro e9 w9 ⟨rfl, b9⟩
        go_wp2_with fail
        go_ret
        exact ⟨rfl, (HBC.trans ⟨b9⟩).out⟩
    · obtain ⟨er, her⟩ : ∃ er, er = (segBuild [116] (pv s.xs) (1 + (m : Int))).2 := ⟨_, rfl⟩
      have HNO : Hid (o.xs = []) := by show _ = _; rw [hox]; exact segBuild_none he
      have hol : o.xs.length = 0 := by rw [HNO.out]; rfl
      rw [← her] at he ⊢
      clear her hox
      go_wp2_with fail
      refine Calls.mono (works37_any _) ?_
      rintro e3 w3 ⟨rfl, b3⟩
      go_wp2_with fail
      go_ret
      exact ⟨rfl, (HBX.trans ⟨b3⟩).out⟩
end Go.Proofs.Ytndlhmnablefpaa
