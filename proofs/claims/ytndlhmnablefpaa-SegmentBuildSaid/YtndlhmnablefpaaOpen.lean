/- What segment.Open answers. -/
import Derived.Test.YtndlhmnablefpaaSeg
import Derived.Test.YtndlhmnablefpaaPar
import Derived.Test.YtndlhmnablefpaaDecE
import Derived.Test.YtndlhmnablefpaaSml
import Derived.Test.YtndlhmnablefpaaFrame1
namespace Go.Proofs.Ytndlhmnablefpaa
open Go.RowKit
set_option linter.unusedSimpArgs false
set_option linter.unusedVariables false
/-- What opening leaves. -/
def OpenPost (w : World) (r : Except Int (List UInt8 × List (List PVer))) (e : Ending) (w' : World) : Prop := Below w.heap.size w w' ∧ match r with
  | .error er => e = .returned (.tuple #[.pointer none, .int .i64 er])
  | .ok (t, bs) => ∃ g s, e = .returned (.tuple #[.pointer (some ⟨g, 0, none⟩), .int .i64 0]) ∧ SegAt w' g ⟨t.toArray⟩ s ∧ bl s.xs = bs
theorem OpenPost.err {w w' : World} {r : Except Int (List UInt8 × List (List PVer))} {er : Int} (h : r = .error er) (hb : BW w w') : OpenPost w r (.returned (.tuple #[.pointer none, .int .i64 er])) w' := by
  subst h; exact ⟨hb.out, rfl⟩
/-- What is left once the blocks are read. -/
def openR (b t : List UInt8) (r : Rd (List (List PVer))) : Except Int (List UInt8 × List (List PVer)) := match r with
  | .error e => .error e
  | .ok (bl, q) => if q < b.length then .error 3 else if segBuild t bl.flatten (sizeOfBlocks bl) = (b, 0) then .ok (t, bl) else .error 24
theorem segOpen_rest {b h t : List UInt8} {p n : Nat} (h1 : dFrame b 0 = .ok (h, p)) (h2 : dHead h = .ok (t, n)) : segOpen b = openR b t (dBlocks b n p []) := by
  unfold segOpen openR
  rw [h1]
  simp only
  rw [h2]
  simp only
  cases dBlocks b n p [] with
  | error e => rfl
  | ok x => rfl
theorem nx_err {w w' : World} {e : Ending} {r : Rd (List UInt8)} {er : Int} (h : NxPost w r e w') (hr : r = .error er) : e = .returned (.tuple #[.slice none 0 0, .int .i64 0, .int .i64 er]) ∧ BW w w' := by
  subst hr; exact ⟨h.2, ⟨h.1⟩⟩
theorem nx_ok {w w' : World} {e : Ending} {r : Rd (List UInt8)} {x : List UInt8} {k : Nat} (h : NxPost w r e w') (hr : r = .ok (x, k)) : ∃ g, e = .returned (.tuple #[.slice (some ⟨g, 0, none⟩) x.length x.length, .int .i64 (k : Int), .int .i64 0]) ∧ Blk w' g x ∧ BW w w' := by
  subst hr
  obtain ⟨g, h1, _, h3⟩ := h.2
  exact ⟨g, h1, h3, ⟨h.1⟩⟩
theorem dec_err {w w' : World} {e : Ending} {r : Except Int (List PVer)} {er : Int} (h : DecPost w r e w') (hr : r = .error er) : e = .returned (.tuple #[.slice none 0 0, .int .i64 er]) ∧ BW w w' := by
  subst hr; exact ⟨h.2, ⟨h.1⟩⟩
theorem dec_ok {w w' : World} {e : Ending} {r : Except Int (List PVer)} {l : List PVer} (h : DecPost w r e w') (hr : r = .ok l) : ∃ A c ys, e = .returned (.tuple #[.slice A ys.length c, .int .i64 0]) ∧ kVer.Inv w' ⟨A, c, ys⟩ ∧ pv ys = l ∧ VFits ys ∧ (∀ x, x ∈ ys → ∀ k, k ∈ kVer.foot x → w.heap.size ≤ k) ∧ BW w w' := by
  subst hr
  obtain ⟨A, c, ys, h1, h2, h3, h4, h5⟩ := h.2
  exact ⟨A, c, ys, h1, h2, h3, h4, h5, ⟨h.1⟩⟩
set_option maxRecDepth 100000 in
set_option maxHeartbeats 2000000 in
theorem open_any (s : Sl UInt8) (w : World) (h : kByte.Inv w s) (hl : s.xs.length ≤ 1000000) :
    Calls Try.prog 22 #[.slice s.A s.xs.length s.cap] w (OpenPost w (segOpen s.xs)) := by
  have HI := Lib.hid h
  clear h
  go_enter Try.func22, Try.ntmps22
  go_wp2_with fail
  refine Calls.mono (next_any s 0 w HI.out (by decide) (by omega)) ?_
  rintro e1 w1 hnx
  cases hF : dFrame s.xs 0 with
  | error er =>
    obtain ⟨rfl, HB⟩ := nx_err hnx hF
    have hne : er ≠ 0 := by have := dFrame_err hF; omega
    have HX : Hid (segOpen s.xs = .error er) := by show _ = _; unfold segOpen; rw [hF]
    clear hF hnx
    go_wp2_with fail
    go_ret2
    exact OpenPost.err HX.out HB
  | ok r =>
  obtain ⟨x, p0⟩ := r
  obtain ⟨g1, rfl, hk1, HB⟩ := nx_ok hnx hF
  obtain ⟨hp1, hp2, hp3⟩ := dFrame_ok hF
  clear hp1
  have HF := Lib.hid hF
  have HK1 := Lib.hid (hk1.inv (by omega))
  clear hF hnx hk1
  go_wp2_with fail
  refine Calls.mono (parse_any ⟨some ⟨g1, 0, none⟩, x.length, x⟩ w1 HK1.out (by simp only; omega)) ?_
  rintro e2 w2 ⟨rfl, b2⟩
  replace HB := HB.trans ⟨b2⟩
  clear b2
  simp only
  cases hH : dHead x with
  | error er =>
    have hne : er ≠ 0 := by have := dHead_err hH; omega
    have HX : Hid (segOpen s.xs = .error er) := by show _ = _; unfold segOpen; rw [HF.out]; simp only; rw [hH]
    simp only [ParV]
    clear hH
    go_wp2_with fail
    go_ret2
    exact OpenPost.err HX.out HB
  | ok r =>
  obtain ⟨t, n⟩ := r
  have HX := Lib.hid (segOpen_rest HF.out hH)
  have htl := dHead_text hH
  simp only [ParV]
  clear hH
  go_wp2_with fail
  go_loopw [4, 5, 6, 9, 10, 11, 12, 13] (fun _ at' _ v sz i _ _ wr => ∃ (k r p m : Nat) (acc : List (List PVer)) (zs : List Ver), k + r = n ∧ k ≤ p ∧ Hid (acc.length = k) ∧ i = .int .i64 (k : Int) ∧ at' = .int .i64 (p : Int) ∧ p ≤ s.xs.length ∧ sz = .int .i64 (m : Int) ∧ Hid (m = sizeOfBlocks acc) ∧ Hid (Own kVer 59 wr w.heap.size v zs) ∧ Hid (pv zs = acc.flatten) ∧ Hid (VFits zs) ∧ zs.length ≤ p ∧ Hid (segOpen s.xs = openR s.xs t (dBlocks s.xs r p acc)) ∧ BW w wr) (fun _ _ _ _ _ i _ _ _ => n - (intOf i).toNat)
  case atStart => exact ⟨0, n, p0, 1, [], [], Nat.zero_add _, Nat.zero_le _, rfl, rfl, rfl, hp2, rfl, rfl, Own.nil _ _ _ _, rfl, (fun v hv => by simp at hv), Nat.zero_le _, HX, HB⟩
  case round =>
    clear HX HB HK1 hp2
    obtain ⟨k, r, p, m, acc, zs, hkr, hkp, HAC, rfl, rfl, hp, rfl, HM, HO, HZ, HV, hzl, HX, HB⟩ := hrel
    cases r with
    | zero =>
      have hkn : ¬ (k : Int) < (n : Int) := by omega
      have HX2 : Hid (segOpen s.xs = openR s.xs t (.ok (acc, p))) := HX.out
      by_cases hpl : p < s.xs.length
      · have hpl' : (p : Int) < (s.xs.length : Int) := by omega
        have HY : Hid (segOpen s.xs = .error 3) := by show _ = _; rw [HX2.out]; unfold openR; simp only; rw [if_pos hpl]
        go_wp2_with fail
        go_ret2
        exact OpenPost.err HY.out HB
      have hpl' : ¬ (p : Int) < (s.xs.length : Int) := by omega
      have HX3 : Hid (segOpen s.xs = if segBuild t acc.flatten (sizeOfBlocks acc) = (s.xs, 0) then .ok (t, acc) else .error 24) := by show _ = _; rw [HX2.out]; unfold openR; simp only; rw [if_neg hpl]
      rw [← HM.out, ← HZ.out] at HX3
      obtain ⟨A, c, hvv, hi, _⟩ := HO.out.sl
      have HZI := Lib.hid hi
      subst hvv
      clear hi HX HX2 hpl
      go_wp2_with fail
      refine Calls.mono (build_any ⟨t.toArray⟩ ⟨A, c, zs⟩ m _ HZI.out HV.out (by show t.toArray.size ≤ _; simp; omega) (by simp only; omega)) ?_
      rintro e3 w3 ⟨o, rfl, ho, hox, b3⟩
      have htt : (⟨t.toArray⟩ : ByteArray).data.toList = t := by simp
      rw [htt] at hox ⊢
      simp only at hox ⊢
      have HOI := Lib.hid ho
      have HOX := Lib.hid hox
      have HB3 : BW _ w3 := ⟨b3⟩
      clear ho hox b3 htt
      by_cases he : (segBuild t (pv zs) (m : Int)).2 = 0
      · rw [he]
        have HSI := Lib.hid (HI.out.below (HB.trans HB3).out)
        by_cases hq : o.xs = s.xs
        · have HY : Hid (segOpen s.xs = .ok (t, acc)) := by show _ = _; rw [HX3.out, if_pos (by rw [← hq, HOX.out, ← he])]
          have HQ : Hid (decide (o.xs = s.xs) = true) := by show _ = _; simpa using hq
          have hfl : acc.flatten.length ≤ 1000000 := by rw [← HZ.out, pv_len']; omega
          have HCH := Lib.hid (segOpen_chunks HY.out hfl)
          have HSB := Lib.hid (segBuild_ok (show segBuild t (pv zs) (m : Int) = (s.xs, 0) by rw [← hq, HOX.out, ← he]))
          have hm1 : 1 ≤ m := by have := HSB.out.lo; omega
          have hm2 : m ≤ 4096 := by have := HSB.out.hi; omega
          clear hq he hfl
          go_wp2_with fail
          refine Calls.mono (bytesEqual_any o s w3 HOI.out HSI.out) ?_
          rintro e4 w4 ⟨rfl, b4⟩
          rw [HQ.out]
          have HB4 := HB3.trans ⟨b4⟩
          go_wp2_with fail
          refine Calls.mono (cut_any ⟨A, c, zs⟩ m w4 (HZI.out.below HB4.out) hm1 hm2 (by simp only; omega)) ?_
          rintro e5 w5 ⟨v5, bs, rfl, ho5, hbk, b5⟩
          obtain ⟨A5, c5, rfl, hi5, _⟩ := ho5.sl
          have HB5 := HB4.trans ⟨b5⟩
          have HI5 := Lib.hid hi5
          have HBL : Hid (bl bs = acc) := by
            show _ = _
            have h1 := hbk.data
            simp only at h1
            rw [h1, HZ.out, HM.out]
            exact HCH.out.1.symm
          clear ho5 hi5 hbk b4 b5
          go_wp2_with fail
          go_ret2
          refine ⟨((HB.trans HB5).alloc _).out, ?_⟩
          rw [HY.out]
          exact ⟨w5.heap.size, ⟨A5, c5, bs⟩, rfl, ⟨heap_alloc_new w5 _, HI5.out.below ((BW.refl w5).alloc _).out⟩, HBL.out⟩
        · have HY : Hid (segOpen s.xs = .error 24) := by show _ = _; rw [HX3.out, if_neg (fun h => hq (by rw [HOX.out, h]))]
          have HQ : Hid (decide (o.xs = s.xs) = false) := by show _ = _; simpa using hq
          clear hq he
          go_wp2_with fail
          refine Calls.mono (bytesEqual_any o s w3 HOI.out HSI.out) ?_
          rintro e4 w4 ⟨rfl, b4⟩
          rw [HQ.out]
          go_wp2_with fail
          go_ret2
          exact OpenPost.err HY.out (HB.trans (HB3.trans ⟨b4⟩))
      · have HY : Hid (segOpen s.xs = .error 24) := by show _ = _; rw [HX3.out, if_neg (fun h => he (by rw [h]))]
        obtain ⟨er, her⟩ : ∃ er, er = (segBuild t (pv zs) (m : Int)).2 := ⟨_, rfl⟩
        rw [← her] at he ⊢
        clear her
        go_wp2_with fail
        go_ret2
        exact OpenPost.err HY.out (HB.trans HB3)
    | succ r =>
      have hkn : (k : Int) < (n : Int) := by omega
      go_wp2_with fail
      refine Calls.mono (next_any s p _ (HI.out.below HB.out) (by omega) (by omega)) ?_
      rintro e3 w3 hnx
      cases hF : dFrame s.xs p with
      | error er =>
        obtain ⟨rfl, HB3⟩ := nx_err hnx hF
        have hne : er ≠ 0 := by have := dFrame_err hF; omega
        have HY : Hid (segOpen s.xs = .error er) := by show _ = _; rw [HX.out, dBlocks_next, hF]; rfl
        clear hF hnx
        go_wp2_with fail
        go_ret2
        exact OpenPost.err HY.out (HB.trans HB3)
      | ok q =>
      obtain ⟨y, p1⟩ := q
      obtain ⟨g3, rfl, hk3, HB3⟩ := nx_ok hnx hF
      obtain ⟨hp4, hp5, hp6⟩ := dFrame_ok hF
      have hp7 : p + 8 + y.length ≤ p1 := by omega
      clear hp4
      have HF3 := Lib.hid hF
      have HK3 := Lib.hid (hk3.inv (by omega))
      clear hF hnx hk3
      go_wp2_with fail
      refine Calls.mono (decodeVersions_any ⟨some ⟨g3, 0, none⟩, y.length, y⟩ w3 HK3.out) ?_
      rintro e4 w4 hdc
      simp only at hdc
      cases hD : decVers y with
      | error er =>
        obtain ⟨rfl, HB4⟩ := dec_err hdc hD
        have hne : er ≠ 0 := by have := decVers_err hD; omega
        have HY : Hid (segOpen s.xs = .error er) := by show _ = _; rw [HX.out, dBlocks_next, HF3.out]; simp only; rw [hD]; rfl
        clear hD hdc
        go_wp2_with fail
        go_ret2
        exact OpenPost.err HY.out (HB.trans (HB3.trans HB4))
      | ok l =>
      obtain ⟨A4, c4, ys, rfl, hi4, hpv4, hvf4, hfo4, HB4⟩ := dec_ok hdc hD
      have hcl := decVers_count hD
      have HD := Lib.hid hD
      have HI4 := Lib.hid hi4
      have HP4 := Lib.hid hpv4
      have HV4 := Lib.hid hvf4
      have HFO := Lib.hid hfo4
      have hyl : ys.length ≤ y.length := by rw [← pv_len' ys, hpv4]; exact hcl
      have HROW := Lib.hid (fun z hz => (HO.out.base_le z hz).2)
      have HO4 := Lib.hid (HO.out.below (HB3.trans HB4).out)
      have hs3 := HB3.out.size
      replace HB := HB.trans (HB3.trans HB4)
      have HY : Hid (segOpen s.xs = openR s.xs t (dBlocks s.xs r p1 (acc ++ [l]))) := by show _ = _; rw [HX.out, dBlocks_next, HF3.out]; simp only; rw [HD.out]
      clear hD hdc hi4 hpv4 hvf4 hfo4 HK3 HO HB3 HB4 HX HF3 HD
      have HSZ := Lib.hid (sizeOf_snoc acc l)
      by_cases hk0 : k = 0
      · obtain rfl := hk0
        have hac : acc = [] := List.eq_nil_of_length_eq_zero HAC.out
        rw [if_pos hac] at HSZ
        have HPL : Hid (ys.length = l.length) := by show _ = _; rw [← HP4.out, pv_len']
        rw [← HPL.out] at HSZ
        clear hac
        go_wp2_with (at_builtin; refine append_all kVer w.heap.size rfl (.tmp 62) (.tmp 63) 29 29 59 88 rfl Try.underlying29 info_ver _ _ zs ys rfl _ rfl (HI4.out.src Try.underlying29) (Apd.own HO4.out) HI4.out.inv ?ap HB.out.size (by omega) ?_; (case ap => exact fun z hz b hb he => by have h1 := HROW.out b he; have h2 := HFO.out z hz b hb; omega); intro v5 w5 r5 ha hg hn; have HO5 := Lib.hid (hn (.inr ⟨HO4.out, rfl⟩)).1; have HB5 : BW w w5 := ⟨HB.out.trans (hg.below HB.out.size (fun z hz => (HO4.out.base_le z hz).1))⟩; clear ha hg hn)
        all_goals
          go_roundw
          case rel => exact ⟨1, r, p1, max 1 ys.length, acc ++ [l], zs ++ ys, by omega, by omega, by show _ = _; rw [List.length_append, HAC.out]; rfl, by go_num, rfl, hp5, (by first | (congr 1; omega) | go_num), by show _ = _; rw [HSZ.out], HO5, by show _ = _; rw [List.flatten_append, ← HZ.out, ← HP4.out]; simp [pv], (fun v hv => by rcases List.mem_append.1 hv with hv | hv; exact HV.out v hv; exact HV4.out v hv), by rw [List.length_append]; omega, HY, HB5⟩
          case measure => simp [intOf]; omega
      · have hk0' : ¬ (k : Int) = 0 := by omega
        have hac : ¬ acc = [] := by intro e; have h1 := HAC.out; rw [e] at h1; simp at h1; omega
        rw [if_neg hac] at HSZ
        go_wp2_with (at_builtin; refine append_all kVer w.heap.size rfl (.tmp 62) (.tmp 63) 29 29 59 88 rfl Try.underlying29 info_ver _ _ zs ys rfl _ rfl (HI4.out.src Try.underlying29) (Apd.own HO4.out) HI4.out.inv ?ap HB.out.size (by omega) ?_; (case ap => exact fun z hz b hb he => by have h1 := HROW.out b he; have h2 := HFO.out z hz b hb; omega); intro v5 w5 r5 ha hg hn; have HO5 := Lib.hid (hn (.inr ⟨HO4.out, rfl⟩)).1; have HB5 : BW w w5 := ⟨HB.out.trans (hg.below HB.out.size (fun z hz => (HO4.out.base_le z hz).1))⟩; clear ha hg hn)
        go_roundw
        case rel => exact ⟨k + 1, r, p1, m, acc ++ [l], zs ++ ys, by omega, by omega, by show _ = _; rw [List.length_append, HAC.out]; rfl, by go_num, rfl, hp5, rfl, by show _ = _; rw [HSZ.out]; exact HM.out, HO5, by show _ = _; rw [List.flatten_append, ← HZ.out, ← HP4.out]; simp [pv], (fun v hv => by rcases List.mem_append.1 hv with hv | hv; exact HV.out v hv; exact HV4.out v hv), by rw [List.length_append]; omega, HY, HB5⟩
        case measure => simp [intOf]; omega
end Go.Proofs.Ytndlhmnablefpaa
