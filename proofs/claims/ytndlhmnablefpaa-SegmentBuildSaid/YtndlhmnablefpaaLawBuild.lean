/- The law SegmentBuild is true. -/
import Derived.Test.YtndlhmnablefpaaWorks7
import Derived.Test.YtndlhmnablefpaaRefB
import Derived.Test.YtndlhmnablefpaaLawEq
namespace Go.Proofs.Ytndlhmnablefpaa
open Go.RowKit
set_option linter.unusedSimpArgs false
set_option linter.unusedVariables false
theorem lawEqual_bs {A B : Option Addr} {M N c d : Nat} {xs ys : List UInt8} (w : World) (h1 : BS w A M c xs) (h2 : BS w B N d ys) :
    Ans Try.prog 21 #[.slice A M c, .slice B N d] w (.bool (decide (xs = ys))) := by
  obtain ⟨i1, rfl⟩ := h1
  obtain ⟨i2, rfl⟩ := h2
  exact lawEqual_any ⟨A, c, xs⟩ ⟨B, d, ys⟩ w i1 i2
set_option maxRecDepth 100000 in
set_option maxHeartbeats 2000000 in
theorem lawBuild_any (t : ByteArray) (s : Sl Ver) (n : Int) (hts : t.size ≤ 9223372036854775807) (w : World) (h : kVer.Inv w s) (hf : VFits s.xs) :
    Ans Try.prog 5 #[.string t, .slice s.A s.xs.length s.cap, .int .i64 n] w (.bool true) := by
  unfold Ans
  have HI := Lib.hid h
  have HF := Lib.hid hf
  clear h hf
  go_enter Try.func5, Try.ntmps5
  go_wp2_with fail
  refine Calls.mono (few37_any s w HI.out) ?_
  rintro e1 w1 ⟨b, rfl, hb, b1⟩
  have HB : BW w w1 := ⟨b1⟩
  have HL := Lib.hid hb
  clear hb b1
  cases b with
  | false =>
    go_wp2_with fail
    refine Calls.mono (works37_any _) ?_
    rintro e2 w2 ⟨rfl, b2⟩
    go_wp2_with fail
    go_ret
    exact ⟨rfl, (HB.trans ⟨b2⟩).out⟩
  | true =>
    have hl := HL.out rfl
    clear HL
    by_cases ht : 300 < t.size
    · have ht' : (300 : Int) < (t.size : Int) := by omega
      go_wp2_with fail
      refine Calls.mono (works37_any _) ?_
      rintro e2 w2 ⟨rfl, b2⟩
      go_wp2_with fail
      go_ret
      exact ⟨rfl, (HB.trans ⟨b2⟩).out⟩
    have ht' : ¬ (300 : Int) < (t.size : Int) := by omega
    obtain ⟨r, hr⟩ : ∃ r, r = segBuild t.data.toList (pv s.xs) n := ⟨_, rfl⟩
    have HR := Lib.hid hr
    clear hr
    go_wp2_with fail
    refine Calls.mono (build_of (tl := t.data.toList) (L := pv s.xs) (xs := s.xs) rfl rfl rfl n w1 (HI.out.below HB.out) HF.out (by omega) (by omega) r HR.out) ?_
    rintro e2 w2 ⟨o, rfl, ho, hox, HB2⟩
    have HO : Hid (BS w2 o.A o.xs.length o.cap r.1) := ⟨by rw [← hox]; exact ho, by rw [hox]⟩
    obtain ⟨ol, hol⟩ : ∃ ol, ol = o.xs.length := ⟨_, rfl⟩
    rw [← hol] at HO ⊢
    clear ho hox hol
    replace HB := HB.trans HB2
    go_wp2_with fail
    refine Calls.mono (rBuild37_any t s n w2 (HI.out.below HB.out) HF.out (by omega) (by omega)) ?_
    rintro e3 w3 ⟨A3, N3, c3, rfl, h3, HB3⟩
    rw [← HR.out] at h3 ⊢
    have HO3 := Lib.hid (HO.out.bw HB3)
    have HS3 := Lib.hid h3
    replace HB := HB.trans HB3
    clear h3
    go_wp2_with fail
    refine Calls.mono (lawEqual_bs w3 HO3.out HS3.out) ?_
    rintro e4 w4 ⟨rfl, b4⟩
    rw [decide_eq_true rfl]
    replace HB := HB.trans ⟨b4⟩
    go_wp2_with fail
    refine Calls.mono (works37_any _) ?_
    rintro e5 w5 ⟨rfl, b5⟩
    go_wp2_with fail
    go_ret
    exact ⟨rfl, (HB.trans ⟨b5⟩).out⟩
end Go.Proofs.Ytndlhmnablefpaa
