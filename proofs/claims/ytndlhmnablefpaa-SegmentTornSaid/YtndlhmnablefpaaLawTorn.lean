/- The law SegmentTorn is true. -/
import Derived.Test.YtndlhmnablefpaaWorks7
namespace Go.Proofs.Ytndlhmnablefpaa
open Go.RowKit
set_option linter.unusedSimpArgs false
set_option linter.unusedVariables false
theorem open_err {A : Option Addr} {c N : Nat} {xs : List UInt8} {er : Int} (hN : N = xs.length) (w : World) (h : kByte.Inv w ⟨A, c, xs⟩) (hl : xs.length ≤ 1000000) (hr : segOpen xs = .error er) :
    Ans Try.prog 22 #[.slice A N c] w (.tuple #[.pointer none, .int .i64 er]) := by
  subst hN
  refine (open_any ⟨A, c, xs⟩ w h hl).mono ?_
  rintro e w' ⟨hb, hm⟩
  simp only at hm
  rw [hr] at hm
  exact ⟨hm, hb⟩
set_option maxRecDepth 100000 in
set_option maxHeartbeats 2000000 in
theorem lawTorn_any (s : Sl Ver) (bk ct : Nat) (hbk : bk < 256) (hct : ct < 65536) (w : World) (h : kVer.Inv w s) (hf : VFits s.xs) :
    Ans Try.prog 8 #[.slice s.A s.xs.length s.cap, .int .u8 (bk : Int), .int .u16 (ct : Int)] w (.bool true) := by
  unfold Ans
  have HI := Lib.hid h
  have HF := Lib.hid hf
  clear h hf
  go_enter Try.func8, Try.ntmps8
  go_wp2_with fail
  refine Calls.mono (few37_any s w HI.out) ?_
  rintro e1 w1 ⟨b, rfl, hb, b1⟩
  have HB : BW w w1 := ⟨b1⟩
  have HL := Lib.hid hb
  clear hb b1
  cases b with
  | false =>
    go_wp2_with fail
    refine Calls.mono (works37_any _) ?_
    rintro e2 w2 ⟨rfl, b2⟩
    go_wp2_with fail
    go_ret
    exact ⟨rfl, (HB.trans ⟨b2⟩).out⟩
  | true =>
    have hl := HL.out rfl
    clear HL
    obtain ⟨m, hm⟩ : ∃ m, m = bk % 20 := ⟨_, rfl⟩
    have hrem : ((bk : Int)).tmod 20 = (m : Int) := by rw [hm]; exact (Int.tmod_eq_emod_of_nonneg (by omega)).trans (by omega)
    have hm20 : m < 20 := by omega
    clear hm
    go_wp2_with fail
    refine Calls.mono (build_of (tl := [116]) (L := pv s.xs) (xs := s.xs) rfl rfl rfl (1 + (m : Int)) w1 (HI.out.below HB.out) HF.out (by decide) (by omega) _ rfl) ?_
    rintro e2 w2 ⟨o, rfl, ho, hox, HB2⟩
    have HO := Lib.hid ho
    have HBX := HB.trans HB2
    clear ho hrem HB2
    by_cases he : (segBuild [116] (pv s.xs) (1 + (m : Int))).2 = 0
    · have HBF : Hid (segBuild [116] (pv s.xs) (1 + (m : Int)) = (o.xs, 0)) := by show _ = _; rw [hox, ← he]
      have hpv : (pv s.xs).length ≤ 100 := by rw [pv_len']; omega
      have hlen := segBuild_len HBF.out hpv
      have hpos : 0 < o.xs.length := by
        have h1 := (segBuild_ok HBF.out).body
        have h2 := congrArg List.length h1
        rw [List.length_append, frameOf_len] at h2
        omega
      obtain ⟨b, q, hA, _, _⟩ := byte_at HO.out 0 hpos
      obtain ⟨c, hc⟩ : ∃ c, c = ct % o.xs.length := ⟨_, rfl⟩
      have hclt : c < o.xs.length := by rw [hc]; exact Nat.mod_lt _ hpos
      have hrem : ((ct : Int)).tmod (o.xs.length : Int) = (c : Int) := by
        rw [hc]
        exact (Int.tmod_eq_emod_of_nonneg (by omega)).trans (by simp)
      have HT : Hid (segOpen (o.xs.take c) = .error 2) := segOpen_torn HBF.out (by omega) hclt
      have HTI : Hid (kByte.Inv w2 ⟨some ⟨b, q, none⟩, o.cap, o.xs.take c⟩) := by
        have h1 := HO.out
        have h2 : o = ⟨some ⟨b, q, none⟩, o.cap, o.xs⟩ := by rw [← hA]
        rw [h2] at h1
        exact kByte_upto h1 c
      have hle := HO.out.le
      have hmx := HO.out.mx
      have HTL : Hid ((o.xs.take c).length = c) := by show _ = _; rw [List.length_take]; omega
      rw [he, hA]
      clear he hox hc hA hpv
      go_wp2_with fail
      refine Calls.mono (open_err HTL.out.symm w2 HTI.out (by rw [HTL.out]; omega) HT.out) ?_
      rintro e3 w3 ⟨rfl, b3⟩
      have HB3 := HBX.trans ⟨b3⟩
      go_wp2_with fail
      refine Calls.mono (works37_any _) ?_
      rintro e4 w4 ⟨rfl, b4⟩
      go_wp2_with fail
      go_ret
      exact ⟨rfl, (HB3.trans ⟨b4⟩).out⟩
    · obtain ⟨er, her⟩ : ∃ er, er = (segBuild [116] (pv s.xs) (1 + (m : Int))).2 := ⟨_, rfl⟩
      rw [← her] at he ⊢
      clear her hox
      go_wp2_with fail
      refine Calls.mono (works37_any _) ?_
      rintro e3 w3 ⟨rfl, b3⟩
      go_wp2_with fail
      go_ret
      exact ⟨ret_bool (by simpa using he), (HBX.trans ⟨b3⟩).out⟩
end Go.Proofs.Ytndlhmnablefpaa
